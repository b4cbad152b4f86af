import Derived.Test.YtgmbaemdedachaaWF1
import Derived.Test.YtgmbaemdedachaaAbsH
import Derived.Test.YtgmbaemdedachaaPI
namespace Go.Abs.Pr
open Go.Proofs
set_option linter.unusedVariables false
set_option linter.unusedSimpArgs false
set_option linter.unnecessarySimpa false
variable {α : Type}
theorem cnd_eq (b : Bool) (x y : Option α) : cnd b x y = if b = true then x else y := by cases b <;> rfl
theorem f45_eq (m : Nat) (a b c : Int) : f45 m a b c = some (decide (b ≤ a ∧ a ≤ c)) := by
 simp [f45, f45_r1, GE.ge, Bool.decide_and]
theorem f67_eq (m : Nat) (s p : S48) : f67 m s p = some ((s.fLx == -1 || s.fLx == p.fLx) && (s.fSf == -1 || s.fSf == p.fSf)) := rfl
def pairS (least : Int) (p : S48) : Int :=
 if ¬ (least ≤ p.fLx ∧ p.fLx ≤ 1114111) ∨ ¬ (least ≤ p.fSf ∧ p.fSf ≤ 1114111) then 3 else if p.fLx = 0 ∧ p.fSf = 0 then 5 else 0
def spotsS : List S48 → Int
 | [] => 0
 | p :: r => if pairS (-1) p = 0 then spotsS r else pairS (-1) p
def gSpots : Int → Unit → S48 → Option (Int ⊕ Unit) := fun _ _ p => if pairS (-1) p = 0 then some (.inr ()) else some (.inl (pairS (-1) p))
theorem scan_spots : ∀ (xs : List S48) (i : Int), scan gSpots i () xs = if spotsS xs = 0 then some (.inr ()) else some (.inl (spotsS xs))
 | [], i => rfl
 | p :: r, i => by
  by_cases h : pairS (-1) p = 0
  ·simp [scan, gSpots, spotsS, h, scan_spots r (i + 1)]
  ·simp [scan, gSpots, spotsS, h]
theorem f64_eq (m : Nat) (xs : List S48) (hl : xs.length ≤ 9223372036854775806) (hm : xs.length < m) : f64 m xs = some (spotsS xs) := by
 unfold f64
 have hb : ∀ (s : Unit) (i : Nat), i ≤ xs.length → f64_B2 m xs (i : Int) = turn xs (fun (_ : Unit) (i : Int) => i) gSpots s i := by
  intro s i hi
  refine body_turn rfl fun x hx => ?_
  have hw : w64 ((i : Int) + 1) = (i : Int) + 1 := w64_id ⟨om, om⟩
  simp only [f45_eq, bnd_some', f64_r1, gSpots, pairS, hw]
  by_cases h1 : -1 ≤ x.fLx ∧ x.fLx ≤ 1114111 <;> by_cases h2 : -1 ≤ x.fSf ∧ x.fSf ≤ 1114111 <;> by_cases h3 : x.fLx = 0 <;> by_cases h4 : x.fSf = 0 <;> simp [cnd_eq, h1, h2, h3, h4]
 have := iter_scan xs (fun y => f64_B2 m xs y) (fun (_ : Unit) (i : Int) => i) gSpots hb m 0 () om om
 simp only [Int.ofNat_zero, List.drop_zero] at this
 have e : iter (fun y => f64_B2 m xs y) m 0 = landed (fun (_ : Unit) (i : Int) => i) xs.length (scan gSpots 0 () xs) := this
 rw [e, scan_spots]
 by_cases h : spotsS xs = 0 <;> simp [h, landed]
def ctxS (c : S72) : Int := if c.fLf.length > 3 ∨ c.fRt.length > 3 then 9 else if spotsS c.fLf ≠ 0 then spotsS c.fLf else spotsS c.fRt
def ctxsS : List S72 → Int
 | [] => 0
 | c :: r => if ctxS c = 0 then ctxsS r else ctxS c
def ruleS (r : S57) : Int := if ¬ (1 ≤ r.fKn ∧ r.fKn ≤ 4) then 4 else if pairS 0 r.fPr ≠ 0 then pairS 0 r.fPr else if ¬ (1 ≤ r.fCx.length ∧ r.fCx.length ≤ 3) then 9 else ctxsS r.fCx
def gCtx : Int → Unit → S72 → Option (Int ⊕ Unit) := fun _ _ c => if ctxS c = 0 then some (.inr ()) else some (.inl (ctxS c))
theorem scan_ctx : ∀ (xs : List S72) (i : Int), scan gCtx i () xs = if ctxsS xs = 0 then some (.inr ()) else some (.inl (ctxsS xs))
 | [], i => rfl
 | p :: r, i => by
  by_cases h : ctxS p = 0
  ·simp [scan, gCtx, ctxsS, h, scan_ctx r (i + 1)]
  ·simp [scan, gCtx, ctxsS, h]
theorem f44_loop (m : Nat) (a : S57) (hm : 4 < m) (hl : a.fCx.length ≤ 3) : iter (fun y => f44_B2 m a y) m 0 = landed (fun (_ : Unit) (i : Int) => i) a.fCx.length (scan gCtx 0 () a.fCx) := by
 refine iter_scan a.fCx (fun y => f44_B2 m a y) (fun (_ : Unit) (i : Int) => i) gCtx (fun s i hi => ?_) m 0 () om om
 refine body_turn rfl fun c hc => ?_
 have hw : w64 ((i : Int) + 1) = (i : Int) + 1 := w64_id ⟨om, om⟩
 simp only [f44_r1, gCtx, ctxS, hw, cnd_eq, Bool.or_eq_true, decide_eq_true_eq]
 by_cases h1 : c.fLf.length > 3
 ·have h1' : (c.fLf.length : Int) > 3 := by omega
  simp [h1, h1']
 ·have h1' : ¬ (c.fLf.length : Int) > 3 := by omega
  by_cases h2 : c.fRt.length > 3
  ·have h2' : (c.fRt.length : Int) > 3 := by omega
   simp [h2, h2']
  ·have h2' : ¬ (c.fRt.length : Int) > 3 := by omega
   rw [f64_eq m c.fLf om om, f64_eq m c.fRt om om]
   by_cases h3 : spotsS c.fLf = 0 <;> by_cases h4 : spotsS c.fRt = 0 <;> simp [h1, h2, h1', h2', h3, h4]
theorem brk_ctx (n : Nat) (xs : List S72) : brk (landed (fun (_ : Unit) (i : Int) => i) n (scan gCtx 0 () xs)) some (fun _ => some (0 : Int)) = some (ctxsS xs) := by
 rw [scan_ctx]
 by_cases h : ctxsS xs = 0 <;> simp [h, landed]
theorem f44_eq (m : Nat) (a : S57) (hm : 4 < m) : f44 m a = some (ruleS a) := by
 unfold f44 ruleS
 simp only [f45_eq, bnd_some', cnd_eq, Bool.not_eq_true', decide_eq_false_iff_not, f44_r3]
 by_cases h1 : 1 ≤ a.fKn ∧ a.fKn ≤ 4
 ·by_cases hl : 1 ≤ a.fCx.length ∧ a.fCx.length ≤ 3
  ·have hl' : (1 : Int) ≤ a.fCx.length ∧ (a.fCx.length : Int) ≤ 3 := by omega
   rw [f44_loop m a hm hl.2, brk_ctx]
   unfold pairS
   by_cases h2 : 0 ≤ a.fPr.fLx ∧ a.fPr.fLx ≤ 1114111 <;> by_cases h3 : 0 ≤ a.fPr.fSf ∧ a.fPr.fSf ≤ 1114111 <;> by_cases h4 : a.fPr.fLx = 0 <;> by_cases h5 : a.fPr.fSf = 0 <;> simp [h1, h2, h3, h4, h5, hl, hl']
  ·have hl' : ¬ ((1 : Int) ≤ a.fCx.length ∧ (a.fCx.length : Int) ≤ 3) := by omega
   unfold pairS
   by_cases h2 : 0 ≤ a.fPr.fLx ∧ a.fPr.fLx ≤ 1114111 <;> by_cases h3 : 0 ≤ a.fPr.fSf ∧ a.fPr.fSf ≤ 1114111 <;> by_cases h4 : a.fPr.fLx = 0 <;> by_cases h5 : a.fPr.fSf = 0 <;> simp [h1, h2, h3, h4, h5, hl, hl']
 ·simp [h1]
def gRule : Int → Unit → S57 → Option (S29 ⊕ Unit) := fun i _ r => if ruleS r = 0 then some (.inr ()) else some (.inl ⟨ruleS r, i⟩)
def rulesS (l : List S57) : Option S29 := if l.length > 40 then some ⟨2, -1⟩ else brk (landed (fun (_ : Unit) (i : Int) => i) l.length (scan gRule 0 () l)) some fun _ => some ⟨0, 0⟩
theorem f24_eq (m : Nat) (l : List S57) (hm : 40 < m) : f24 m l = rulesS l := by
 unfold f24 rulesS
 simp only [cnd_eq, decide_eq_true_eq, f43, bnd_some']
 by_cases h : l.length > 40
 ·rw [if_pos h, if_pos om]
 ·rw [if_neg h, if_neg om]
  have e : iter (fun y => f24_B1 m l y) m 0 = landed (fun (_ : Unit) (i : Int) => i) l.length (scan gRule 0 () l) := by
   refine iter_scan l (fun y => f24_B1 m l y) (fun (_ : Unit) (i : Int) => i) gRule (fun s i hi => ?_) m 0 () om om
   refine body_turn rfl fun c hc => ?_
   have hw : w64 ((i : Int) + 1) = (i : Int) + 1 := w64_id ⟨om, om⟩
   rw [f44_eq m c om]
   simp only [bnd_some', cnd_eq, gRule, hw, f43]
   by_cases h : ruleS c = 0 <;> simp [h]
  rw [e]
def gPair : Int → Unit → S48 → Option (S29 ⊕ Unit) := fun i _ p => if pairS 0 p = 0 then some (.inr ()) else some (.inl ⟨pairS 0 p, i⟩)
def pairsS (l : List S48) : Option S29 := if l.length > 30 then some ⟨2, -2⟩ else brk (landed (fun (_ : Unit) (i : Int) => (false, i)) l.length (scan gPair 0 () l)) some fun _ => some ⟨0, 0⟩
theorem f25_eq (m : Nat) (l : List S48) (hm : 30 < m) : f25 m l 30 false = pairsS l := by
 unfold f25 pairsS
 simp only [cnd_eq, decide_eq_true_eq, f43, bnd_some']
 by_cases h : l.length > 30
 ·rw [if_pos h, if_pos om]
 ·rw [if_neg h, if_neg om]
  have e : iter (fun y => f25_B4 m l y.1 y.2) m (false, 0) = landed (fun (_ : Unit) (i : Int) => (false, i)) l.length (scan gPair 0 () l) := by
   refine iter_scan l (fun y => f25_B4 m l y.1 y.2) (fun (_ : Unit) (i : Int) => (false, i)) gPair (fun s i hi => ?_) m 0 () om om
   refine body_turn rfl fun c hc => ?_
   have hw : w64 ((i : Int) + 1) = (i : Int) + 1 := w64_id ⟨om, om⟩
   simp only [f45_eq, bnd_some', cnd_eq, gPair, pairS, hw, f43, f25_r3, f25_r2, f25_r1, Bool.false_and, Bool.false_eq_true, if_false]
   by_cases h1 : 0 ≤ c.fLx ∧ c.fLx ≤ 1114111 <;> by_cases h2 : 0 ≤ c.fSf ∧ c.fSf ≤ 1114111 <;> by_cases h3 : c.fLx = 0 <;> by_cases h4 : c.fSf = 0 <;> simp [h1, h2, h3, h4]
  rw [e]
def fitS (s p : S48) : Bool := (s.fLx == -1 || s.fLx == p.fLx) && (s.fSf == -1 || s.fSf == p.fSf)
def fitAll : List S48 → List S48 → Bool
 | [], _ => true
 | s :: r, p :: q => fitS s p && fitAll r q
 | _ :: _, [] => false
def gFit (l : List S48) (k : Nat) : Int → Unit → S48 → Option (Bool ⊕ Unit) := fun i _ s => match l[k + i.toNat]? with
 | some p => if fitS s p then some (.inr ()) else some (.inl false)
 | none => none
theorem scan_fit (l : List S48) (k : Nat) : ∀ (xs : List S48) (i : Nat), k + i + xs.length ≤ l.length → scan (gFit l k) i () xs = if fitAll xs (l.drop (k + i)) then some (.inr ()) else some (.inl false)
 | [], i, h => rfl
 | s :: r, i, h => by
  simp only [List.length_cons] at h
  have hlt : k + i < l.length := by omega
  rw [zI hlt]
  have ih := scan_fit l k r (i + 1) om
  simp only [scan, gFit, zN, zA hlt, fitAll]
  by_cases hf : fitS s l[k + i] = true
  ·simp only [hf, if_true, Bool.true_and]
   exact ih
  ·simp [hf]
theorem f60_left (m : Nat) (c : S72) (l : List S48) (k : Nat) (hk : k + c.fLf.length ≤ l.length) (hl : l.length ≤ 1000) (hm : 1000 < m) :
  iter (fun y => f60_B1 m c l ((k + c.fLf.length : Nat) : Int) y) m 0 = landed (fun (_ : Unit) (i : Int) => i) c.fLf.length (if fitAll c.fLf (l.drop k) then some (.inr ()) else some (.inl false)) := by
 have e := scan_fit l k c.fLf 0 om
 simp only [Int.ofNat_zero, Nat.add_zero] at e
 have e : scan (gFit l k) 0 () c.fLf = _ := e
 rw [← e]
 refine iter_scan c.fLf (fun y => f60_B1 m c l ((k + c.fLf.length : Nat) : Int) y) (fun (_ : Unit) (i : Int) => i) (gFit l k) (fun s i hi => ?_) m 0 () om om
 refine body_turn rfl fun x hx => ?_
 have hlt : i < c.fLf.length := by
  rcases Nat.lt_or_ge i c.fLf.length with h | h
  ·exact h
  ·rw [zS h] at hx; cases hx
 have hw : w64 ((i : Int) + 1) = (i : Int) + 1 := w64_id ⟨om, om⟩
 have hw1 : w64 (((k + c.fLf.length : Nat) : Int) - (c.fLf.length : Int)) = (k : Int) := by rw [w64_id ⟨om, om⟩]; omega
 have hw2 : w64 ((k : Int) + (i : Int)) = ((k + i : Nat) : Int) := by rw [w64_id ⟨om, om⟩]; omega
 have hlt2 : k + i < l.length := by omega
 have hix : idx l ((k + i : Nat) : Int) = some l[k + i] := by
  unfold idx
  rw [if_pos om, zN, zA hlt2]
 simp only [hw1, hw2, hix, bnd_some', f67_eq, cnd_eq, hw, gFit, zN, zA hlt2]
 have hf : ((x.fLx == -1 || x.fLx == l[k + i].fLx) && (x.fSf == -1 || x.fSf == l[k + i].fSf)) = fitS x l[k + i] := rfl
 rw [hf]
 by_cases h : fitS x l[k + i] = true <;> simp [h]
theorem f60_right (m : Nat) (c : S72) (l : List S48) (k : Nat) (hk : k + 1 + c.fRt.length ≤ l.length) (hl : l.length ≤ 1000) (hm : 1000 < m) :
  iter (fun y => f60_B2 m c l (k : Int) y) m 0 = landed (fun (_ : Unit) (i : Int) => i) c.fRt.length (if fitAll c.fRt (l.drop (k + 1)) then some (.inr ()) else some (.inl false)) := by
 have e := scan_fit l (k + 1) c.fRt 0 om
 simp only [Int.ofNat_zero, Nat.add_zero] at e
 have e : scan (gFit l (k + 1)) 0 () c.fRt = _ := e
 rw [← e]
 refine iter_scan c.fRt (fun y => f60_B2 m c l (k : Int) y) (fun (_ : Unit) (i : Int) => i) (gFit l (k + 1)) (fun s i hi => ?_) m 0 () om om
 refine body_turn rfl fun x hx => ?_
 have hlt : i < c.fRt.length := by
  rcases Nat.lt_or_ge i c.fRt.length with h | h
  ·exact h
  ·rw [zS h] at hx; cases hx
 have hw : w64 ((i : Int) + 1) = (i : Int) + 1 := w64_id ⟨om, om⟩
 have hw1 : w64 ((k : Int) + 1) = (k : Int) + 1 := w64_id ⟨om, om⟩
 have hw2 : w64 ((k : Int) + 1 + (i : Int)) = ((k + 1 + i : Nat) : Int) := by rw [w64_id ⟨om, om⟩]; omega
 have hlt2 : k + 1 + i < l.length := by omega
 have hix : idx l ((k + 1 + i : Nat) : Int) = some l[k + 1 + i] := by
  unfold idx
  rw [if_pos om, zN, zA hlt2]
 simp only [hw1, hw2, hix, bnd_some', f67_eq, cnd_eq, hw, gFit, zN, zA hlt2]
 have hf : ((x.fLx == -1 || x.fLx == l[k + 1 + i].fLx) && (x.fSf == -1 || x.fSf == l[k + 1 + i].fSf)) = fitS x l[k + 1 + i] := rfl
 rw [hf]
 by_cases h : fitS x l[k + 1 + i] = true <;> simp [h]
def placeS (c : S72) (n k : Nat) : Prop := c.fLf.length ≤ k ∧ k + 1 + c.fRt.length ≤ n ∧ (c.fBg = true → k = c.fLf.length) ∧ (c.fEnd = true → k + 1 + c.fRt.length = n)
instance (c : S72) (n k : Nat) : Decidable (placeS c n k) := by unfold placeS; infer_instance
def aroundS (c : S72) (l : List S48) (k : Nat) : Bool := decide (placeS c l.length k) && (fitAll c.fLf (l.drop (k - c.fLf.length)) && fitAll c.fRt (l.drop (k + 1)))
theorem f60_eq (m : Nat) (c : S72) (l : List S48) (k : Nat) (hk : k < l.length) (hl : l.length ≤ 1000) (h1 : c.fLf.length ≤ 3) (h2 : c.fRt.length ≤ 3) (hm : 1000 < m) : f60 m c l (k : Int) = some (aroundS c l k) := by
 have hw1 : w64 ((k : Int) - (c.fLf.length : Int)) = (k : Int) - (c.fLf.length : Int) := w64_id ⟨om, om⟩
 have hw2 : w64 ((k : Int) + 1) = (k : Int) + 1 := w64_id ⟨om, om⟩
 have hw3 : w64 ((k : Int) + 1 + (c.fRt.length : Int)) = (k : Int) + 1 + (c.fRt.length : Int) := w64_id ⟨om, om⟩
 unfold f60 f60_r5 f60_r4 f60_r3 aroundS
 rw [hw2, hw3, hw1]
 by_cases hp : placeS c l.length k
 ·obtain ⟨p1, p2, p3, p4⟩ := hp
  have hb : ((((decide ((k : Int) - (c.fLf.length : Int) < 0)) || (decide ((k : Int) + 1 + (c.fRt.length : Int) > (l.length : Int)))) || ((c.fBg && (((k : Int) - (c.fLf.length : Int)) != 0)))) || ((c.fEnd && (((k : Int) + 1 + (c.fRt.length : Int)) != ((l.length : Int)))))) = false := by
   simp only [Bool.or_eq_false_iff, decide_eq_false_iff_not, Bool.and_eq_false_iff, bne_eq_false_iff_eq]
   refine ⟨⟨⟨om, om⟩, ?_⟩, ?_⟩
   ·cases h : c.fBg
    ·exact .inl rfl
    ·have := p3 h; exact .inr om
   ·cases h : c.fEnd
    ·exact .inl rfl
    ·have := p4 h; exact .inr om
  rw [hb]
  have hkk : k = (k - c.fLf.length) + c.fLf.length := by omega
  have e1 := f60_left m c l (k - c.fLf.length) om hl hm
  rw [← hkk] at e1
  rw [cnd_false, e1, f60_right m c l k p2 hl hm]
  have hd : decide (placeS c l.length k) = true := decide_eq_true (⟨p1, p2, p3, p4⟩ : placeS c l.length k)
  rw [hd]
  by_cases q1 : fitAll c.fLf (l.drop (k - c.fLf.length)) = true <;> by_cases q2 : fitAll c.fRt (l.drop (k + 1)) = true <;> simp [q1, q2, landed]
 ·have hb : ((((decide ((k : Int) - (c.fLf.length : Int) < 0)) || (decide ((k : Int) + 1 + (c.fRt.length : Int) > (l.length : Int)))) || ((c.fBg && (((k : Int) - (c.fLf.length : Int)) != 0)))) || ((c.fEnd && (((k : Int) + 1 + (c.fRt.length : Int)) != ((l.length : Int)))))) = true := by
   refine Decidable.byContradiction fun hn => hp ?_
   simp only [Bool.not_eq_true, Bool.or_eq_false_iff, decide_eq_false_iff_not, Bool.and_eq_false_iff, bne_eq_false_iff_eq] at hn
   obtain ⟨⟨⟨n1, n2⟩, n3⟩, n4⟩ := hn
   refine ⟨om, om, fun h => ?_, fun h => ?_⟩
   ·rcases n3 with n3 | n3
    ·rw [n3] at h; cases h
    ·omega
   ·rcases n4 with n4 | n4
    ·rw [n4] at h; cases h
    ·omega
  rw [hb, decide_eq_false hp]
  rfl
def okSpot (s : S48) : Prop := -1 ≤ s.fLx ∧ -1 ≤ s.fSf
def allP {α : Type} (P : Int → α → Bool) : Int → List α → Bool
 | _, [] => true
 | i, x :: r => P i x && allP P (i + 1) r
theorem scan_allP {α R : Type} (P : Int → α → Bool) (c : R) : ∀ (xs : List α) (i : Int), scan (fun i (_ : Unit) x => if P i x then some (.inr ()) else some (.inl c)) i () xs = if allP P i xs then some (.inr ()) else some (.inl c)
 | [], i => rfl
 | x :: r, i => by
  by_cases h : P i x = true
  ·simp only [scan, h, if_true, allP, Bool.true_and]
   exact scan_allP P c r (i + 1)
  ·simp [scan, allP, h]
def firstP {α : Type} (P : α → Bool) : Int → List α → Option Int
 | _, [] => none
 | i, x :: r => if P x then firstP P (i + 1) r else some i
theorem scan_firstP {α R : Type} (P : α → Bool) (c : Int → R) : ∀ (xs : List α) (i : Int), scan (fun i (_ : Unit) x => if P x then some (.inr ()) else some (.inl (c i))) i () xs = match firstP P i xs with
  | none => some (.inr ())
  | some j => some (.inl (c j))
 | [], i => rfl
 | x :: r, i => by
  by_cases h : P x = true
  ·simp only [scan, h, if_true, firstP]
   exact scan_firstP P c r (i + 1)
  ·simp [scan, firstP, h]
variable {i : Nat}
theorem body_turn' {R S A : Type} {xs : List α} {mk : S → Int → A} {g : Int → S → α → Option (R ⊕ S)} {s : S} {K : Option (Stp R A)} {z : A} (hz : z = mk s i)
  (hK : ∀ x, xs[i]? = some x → K = match g i s x with
   | some (.inl r) => some (.ret r)
   | some (.inr s') => some (.nxt (mk s' ((i : Int) + 1)))
   | none => none) : cnd (decide ((i : Int) < (xs.length : Int))) K (some (.brk z)) = turn xs mk g s i := by
 unfold turn
 rcases Nat.lt_or_ge i xs.length with hlt | hge
 ·have h1 : decide ((i : Int) < (xs.length : Int)) = true := by simpa using hlt
  have h3 := zA hlt
  rw [h1, h3]
  exact hK _ h3
 ·have h1 : decide ((i : Int) < (xs.length : Int)) = false := by simpa using hge
  rw [h1, zS hge, hz]
  rfl
theorem lt_of_get {l : List α} {x : α} (h : l[i]? = some x) : i < l.length := by
 rcases Nat.lt_or_ge i l.length with h' | h'
 ·exact h'
 ·rw [zS h'] at h; cases h
theorem pairS_ok {l : Int} {p : S48} (h : pairS l p = 0) : l ≤ p.fLx ∧ l ≤ p.fSf := by
 unfold pairS at h
 split at h
 ·cases h
 ·rename_i hn
  omega
theorem spots_ok : ∀ {xs : List S48}, spotsS xs = 0 → ∀ s ∈ xs, okSpot s
 | [], h, s, hs => by cases hs
 | p :: r, h, s, hs => by
  unfold spotsS at h
  split at h
  ·rename_i hp
   rcases List.mem_cons.1 hs with rfl | hs
   ·exact pairS_ok hp
   ·exact spots_ok h s hs
  ·rename_i hp
   exact (hp h).elim
def okCtx (c : S72) : Prop := c.fLf.length ≤ 3 ∧ c.fRt.length ≤ 3 ∧ (∀ s ∈ c.fLf, okSpot s) ∧ ∀ s ∈ c.fRt, okSpot s
theorem ctx_ok {c : S72} (h : ctxS c = 0) : okCtx c := by
 unfold ctxS at h
 split at h
 ·cases h
 ·split at h
  ·rename_i h1 h2
   exact (h2 h).elim
  ·rename_i h1 h2
   refine ⟨om, om, spots_ok (Decidable.byContradiction h2), spots_ok h⟩
theorem ctxs_ok : ∀ {xs : List S72}, ctxsS xs = 0 → ∀ c ∈ xs, okCtx c
 | [], h, s, hs => by cases hs
 | p :: r, h, s, hs => by
  unfold ctxsS at h
  split at h
  ·rename_i hp
   rcases List.mem_cons.1 hs with rfl | hs
   ·exact ctx_ok hp
   ·exact ctxs_ok h s hs
  ·rename_i hp
   exact (hp h).elim
def okRule (r : S57) : Prop := (1 ≤ r.fKn ∧ r.fKn ≤ 4) ∧ r.fCx.length ≤ 3 ∧ ∀ c ∈ r.fCx, okCtx c
theorem rule_ok {r : S57} (h : ruleS r = 0) : okRule r := by
 unfold ruleS at h
 split at h
 ·cases h
 ·split at h
  ·rename_i h1 h2
   exact (h2 h).elim
  ·split at h
   ·cases h
   ·rename_i h1 h2 h3
    refine ⟨om, om, ctxs_ok h⟩
theorem scan_rule_ok : ∀ (l : List S57) (i : Int), (∃ v, scan gRule i () l = some (.inl v) ∧ v.fCo ≠ 0) ∨ (scan gRule i () l = some (.inr ()) ∧ ∀ r ∈ l, okRule r)
 | [], i => .inr ⟨rfl, fun r h => by cases h⟩
 | x :: r, i => by
  by_cases h : ruleS x = 0
  ·rcases scan_rule_ok r (i + 1) with ⟨v, h1, h2⟩ | ⟨h1, h2⟩
   ·exact .inl ⟨v, by simp only [scan, gRule, h, if_true]; exact h1, h2⟩
   ·refine .inr ⟨by simp only [scan, gRule, h, if_true]; exact h1, fun y hy => ?_⟩
    rcases List.mem_cons.1 hy with rfl | hy
    ·exact rule_ok h
    ·exact h2 y hy
  ·exact .inl ⟨⟨ruleS x, i⟩, by simp [scan, gRule, h], h⟩
theorem rulesS_ok (l : List S57) : (∃ v, rulesS l = some v ∧ v.fCo ≠ 0) ∨ (rulesS l = some ⟨0, 0⟩ ∧ l.length ≤ 40 ∧ ∀ r ∈ l, okRule r) := by
 unfold rulesS
 by_cases hl : l.length > 40
 ·exact .inl ⟨⟨2, -1⟩, by simp [hl], by decide⟩
 ·rw [if_neg hl]
  rcases scan_rule_ok l 0 with ⟨v, h1, h2⟩ | ⟨h1, h2⟩
  ·exact .inl ⟨v, by rw [h1]; rfl, h2⟩
  ·exact .inr ⟨by rw [h1]; rfl, om, h2⟩
theorem scan_pair_ok : ∀ (l : List S48) (i : Int), (∃ v, scan gPair i () l = some (.inl v) ∧ v.fCo ≠ 0) ∨ scan gPair i () l = some (.inr ())
 | [], i => .inr rfl
 | x :: r, i => by
  by_cases h : pairS 0 x = 0
  ·rcases scan_pair_ok r (i + 1) with ⟨v, h1, h2⟩ | h1
   ·exact .inl ⟨v, by simp only [scan, gPair, h, if_true]; exact h1, h2⟩
   ·exact .inr (by simp only [scan, gPair, h, if_true]; exact h1)
  ·exact .inl ⟨⟨pairS 0 x, i⟩, by simp [scan, gPair, h], h⟩
theorem pairsS_ok (l : List S48) : (∃ v, pairsS l = some v ∧ v.fCo ≠ 0) ∨ (pairsS l = some ⟨0, 0⟩ ∧ l.length ≤ 30) := by
 unfold pairsS
 by_cases hl : l.length > 30
 ·exact .inl ⟨⟨2, -2⟩, by simp [hl], by decide⟩
 ·rw [if_neg hl]
  rcases scan_pair_ok l 0 with ⟨v, h1, h2⟩ | h1
  ·exact .inl ⟨v, by rw [h1]; rfl, h2⟩
  ·exact .inr ⟨by rw [h1]; rfl, om⟩
def anyS (r : S57) (l : List S48) (k : Nat) : Bool := r.fCx.any fun c => aroundS c l k
def sameS (r : S57) (p : S48) : Bool := (p.fLx == r.fPr.fLx) && ((p.fSf == r.fPr.fSf) && true)
def obeyS (r : S57) (l : List S48) (k : Nat) (p : S48) : Bool :=
 if r.fKn = 1 then !sameS r p || anyS r l k
 else if r.fKn = 2 then ((p.fLx != r.fPr.fLx) || sameS r p) || !anyS r l k
 else if r.fKn = 3 then (!sameS r p || anyS r l k) && (((p.fLx != r.fPr.fLx) || sameS r p) || !anyS r l k)
 else !sameS r p || !anyS r l k
theorem scan_any (l : List S48) (k : Nat) : ∀ (xs : List S72) (i : Int) (b : Bool), scan (R := Bool) (fun _ b c => some (.inr (b || aroundS c l k))) i b xs = some (.inr (b || xs.any fun c => aroundS c l k))
 | [], i, b => by simp [scan]
 | x :: r, i, b => by
  simp only [scan]
  rw [scan_any l k r (i + 1)]
  simp [Bool.or_assoc]
theorem f38_eq (m : Nat) (r : S57) (l : List S48) (k : Nat) (p : S48) (hp : l[k]? = some p) (hl : l.length ≤ 1000) (hr : okRule r) (hm : 1000 < m) : f38 m r l (k : Int) = some (obeyS r l k p) := by
 obtain ⟨hk, hc, hr⟩ := hr
 have hlt := lt_of_get hp
 unfold f38
 have e : iter (fun (y : Bool × Int) => f38_B2 m r l k y.1 y.2) m (false, 0) = landed (fun (b : Bool) (i : Int) => (b, i)) r.fCx.length (scan (R := Bool) (fun _ b c => some (.inr (b || aroundS c l k))) 0 false r.fCx) := by
  refine iter_scan r.fCx (fun (y : Bool × Int) => f38_B2 m r l k y.1 y.2) (fun (b : Bool) (i : Int) => (b, i)) (fun _ b c => some (.inr (b || aroundS c l k))) (fun s i hi => ?_) m 0 false om om
  refine body_turn rfl fun c hcx => ?_
  have hw : w64 ((i : Int) + 1) = (i : Int) + 1 := w64_id ⟨om, om⟩
  obtain ⟨g1, g2, g3, g4⟩ := hr c (zE hcx)
  rw [f60_eq m c l k hlt hl g1 g2 hm]
  cases s <;> simp [f38_r1, hw]
 have hix : idx l (k : Int) = some p := by
  unfold idx
  rw [if_pos om, zN, hp]
 rw [e, scan_any, Bool.false_or]
 simp only [landed, brk_inr, hix, bnd_some', f38_r7, f38_r6, f38_r5, f38_r4, f38_r3, cnd_eq, beq_iff_eq]
 unfold obeyS
 unfold anyS sameS
 split
 ·rfl
 ·split
  ·rfl
  ·split <;> rfl
def obeyedS (l : List S48) (r : S57) : Bool := allP (fun i p => obeyS r l i.toNat p) 0 l
theorem f19_inner (m : Nat) (i : Int) (r : S57) (l : List S48) (hl : l.length ≤ 1000) (hr : okRule r) (hm : 1000 < m) :
  iter (fun (y : Int) => f19_B1 m l i r y) m 0 = landed (fun (_ : Unit) (i : Int) => i) l.length (if obeyedS l r then some (.inr ()) else some (.inl (false, i, ⟨0, 0⟩))) := by
 have e : iter (fun (y : Int) => f19_B1 m l i r y) m 0 = landed (fun (_ : Unit) (i : Int) => i) l.length (scan (fun k (_ : Unit) p => if obeyS r l k.toNat p then some (.inr ()) else some (.inl (false, i, (⟨0, 0⟩ : S29)))) 0 () l) := by
  refine iter_scan l (fun (y : Int) => f19_B1 m l i r y) (fun (_ : Unit) (i : Int) => i) (fun k (_ : Unit) p => if obeyS r l k.toNat p then some (.inr ()) else some (.inl (false, i, (⟨0, 0⟩ : S29)))) (fun s k hi => ?_) m 0 () om om
  refine body_turn' rfl fun p hp => ?_
  have hw : w64 ((k : Int) + 1) = (k : Int) + 1 := w64_id ⟨om, om⟩
  rw [f38_eq m r l k p hp hl hr hm]
  simp only [zN]
  by_cases h : obeyS r l k p = true <;> simp [h, hw]
 rw [e, scan_allP (fun k p => obeyS r l k.toNat p)]
 rfl
theorem f19_loop (m : Nat) (rs : List S57) (l : List S48) (hl : l.length ≤ 1000) (hn : rs.length ≤ 1000) (hr : ∀ r ∈ rs, okRule r) (hm : 1000 < m) :
  iter (fun (y : Int) => f19_B2 m rs l y) m 0 = landed (fun (_ : Unit) (i : Int) => i) rs.length (match firstP (obeyedS l) 0 rs with | none => some (.inr ()) | some j => some (.inl (false, j, ⟨0, 0⟩))) := by
 have e : iter (fun (y : Int) => f19_B2 m rs l y) m 0 = landed (fun (_ : Unit) (i : Int) => i) rs.length (scan (fun i (_ : Unit) r => if obeyedS l r then some (.inr ()) else some (.inl (false, i, (⟨0, 0⟩ : S29)))) 0 () rs) := by
  refine iter_scan rs (fun (y : Int) => f19_B2 m rs l y) (fun (_ : Unit) (i : Int) => i) (fun i (_ : Unit) r => if obeyedS l r then some (.inr ()) else some (.inl (false, i, (⟨0, 0⟩ : S29)))) (fun s k hi => ?_) m 0 () om om
  refine body_turn rfl fun r hrx => ?_
  have hw : w64 ((k : Int) + 1) = (k : Int) + 1 := w64_id ⟨om, om⟩
  rw [f19_inner m k r l hl (hr r (zE hrx)) hm]
  by_cases h : obeyedS l r = true <;> simp [h, hw, landed]
 rw [e, scan_firstP (obeyedS l) (fun i => (false, i, (⟨0, 0⟩ : S29))) rs 0]
def allowedS (rs : List S57) (l : List S48) : Bool × Int × S29 := match firstP (obeyedS l) 0 rs with
 | none => (true, -1, ⟨0, 0⟩)
 | some j => (false, j, ⟨0, 0⟩)
theorem ok25 (v : S29) (h : v.fCo ≠ 0) : ((v.fCo == 0) && ((v.fIx == 0) && true)) = false := by
 have : (v.fCo == 0) = false := by simpa using h
 rw [this]; rfl
theorem f19_eq (m : Nat) (rs : List S57) (l : List S48) (hm : 1000 < m) :
  (∃ v, v.fCo ≠ 0 ∧ rulesS rs = some v ∧ f19 m rs l = some (false, 0, v)) ∨
  (rulesS rs = some ⟨0, 0⟩ ∧ ∃ v, v.fCo ≠ 0 ∧ pairsS l = some v ∧ f19 m rs l = some (false, 0, v)) ∨
  (rulesS rs = some ⟨0, 0⟩ ∧ pairsS l = some ⟨0, 0⟩ ∧ l.length ≤ 30 ∧ rs.length ≤ 40 ∧ (∀ r ∈ rs, okRule r) ∧ f19 m rs l = some (allowedS rs l)) := by
 unfold f19
 rw [f24_eq m rs om, f25_eq m l om]
 rcases rulesS_ok rs with ⟨v, h1, h2⟩ | ⟨h1, h2, h3⟩
 ·refine .inl ⟨v, h2, h1, ?_⟩
  rw [h1]
  simp only [bnd_some', ok25 v h2]
  rfl
 ·refine .inr ?_
  rw [h1]
  rcases pairsS_ok l with ⟨v, g1, g2⟩ | ⟨g1, g2⟩
  ·refine .inl ⟨rfl, v, g2, g1, ?_⟩
   rw [g1]
   simp only [bnd_some', ok25 v g2]
   rfl
  ·refine .inr ⟨rfl, g1, g2, h2, h3, ?_⟩
   rw [g1, f19_loop m rs l om om h3 hm]
   simp only [bnd_some']
   unfold allowedS
   cases firstP (obeyedS l) 0 rs <;> rfl
end Go.Abs.Pr
namespace Go.Abs.Pl
open Go.Sort Go.Proofs Go.Abs.Tc Go.Abs.Te Go.Abs.Tf Go.Abs.Tg Go.Abs.Th Go.Abs.Ts Go.Abs.Tw Go.Abs.Ty
set_option linter.unusedVariables false
def rOK (c : S72) (n : Nat) (y : List S48) : Bool := Pr.fitAll (c.fRt.drop n) y && (!c.fEnd || decide (c.fRt.length = y.length + n))
def RO (r : S57) (h : S111) (y : List S48) : Prop := ∃ c, idx r.fCx h.fCt = some c ∧ rOK c h.fSn.toNat y = true
variable {h : S111} {p : S48} {r : S57} {y : List S48}
theorem RO_step (hv : Hv r h) (hf : ful1 r false h = false) : RO r h (p :: y) ↔ goes r p h = true ∧ RO r ⟨h.fCt, h.fSn + 1⟩ y := by
 obtain ⟨c, hc, h0, h1⟩ := hv
 have e1 : (h.fSn + 1).toNat = h.fSn.toNat + 1 := by omega
 have hs : h.fSn = ((h.fSn.toNat : Nat) : Int) := by omega
 unfold ful1 at hf
 rw [hc] at hf
 dsimp only at hf
 have hgo : goes r p h = match idx c.fRt h.fSn with
  | none => false
  | some q => fitB q p := by unfold goes; rw [hc]; rfl
 have hRO : ∀ (n : Int) z, RO r ⟨h.fCt, n⟩ z ↔ rOK c n.toNat z = true := fun n z => ⟨fun ⟨c', h2, h3⟩ => by
  rw [show (S111.mk h.fCt n).fCt = h.fCt from rfl, hc] at h2
  cases h2
  exact h3, fun h3 => ⟨c, hc, h3⟩⟩
 have hRO' : ∀ z, RO r h z ↔ rOK c h.fSn.toNat z = true := fun z => hRO h.fSn z
 rw [hRO', hRO, hgo, e1]
 generalize h.fSn.toNat = n at hs e1
 rw [hs, idx_get]
 rw [hs] at hf h1
 have hn : n ≤ c.fRt.length := by omega
 unfold rOK
 by_cases hlt : n < c.fRt.length
 ·have hq : c.fRt[n]? = some c.fRt[n] := zA hlt
  rw [hq, zI hlt]
  generalize c.fRt[n] = q
  have e2 : Pr.fitAll (q :: c.fRt.drop (n + 1)) (p :: y) = (fitB q p && Pr.fitAll (c.fRt.drop (n + 1)) y) := rfl
  rw [e2, List.length_cons, show y.length + 1 + n = y.length + (n + 1) by omega]
  simp [and_assoc]
 ·have hq : c.fRt[n]? = none := zS om
  have hd : c.fRt.drop n = [] := zT om
  have he : c.fEnd = true := by
   cases h2 : c.fEnd with
   | true => rfl
   | false =>
    rw [h2] at hf
    have : ((n : Int) == (c.fRt.length : Int)) = true := by simp; omega
    rw [this] at hf
    cases hf
  rw [hq, hd, he, List.length_cons]
  have : ¬ c.fRt.length = y.length + 1 + n := by omega
  have e3 : decide (c.fRt.length = y.length + 1 + n) = false := decide_eq_false this
  rw [e3]
  constructor
  ·intro h; cases h
  ·intro h; cases h.1
theorem RO_nil (hv : Hv r h) (hf : ful1 r false h = false) : RO r h [] ↔ ful1 r true h = true := by
 obtain ⟨c, hc, h0, h1⟩ := hv
 unfold ful1 at hf ⊢
 rw [hc] at hf ⊢
 dsimp only at hf ⊢
 have hRO : RO r h [] ↔ rOK c h.fSn.toNat [] = true := ⟨fun ⟨c', h2, h3⟩ => by
  rw [hc] at h2
  cases h2
  exact h3, fun h3 => ⟨c, hc, h3⟩⟩
 rw [hRO]
 unfold rOK
 by_cases hlt : h.fSn.toNat < c.fRt.length
 ·have hd : c.fRt.drop h.fSn.toNat ≠ [] := by
   intro e
   have := congrArg List.length e
   rw [List.length_drop] at this
   simp at this
   omega
  have hfit : Pr.fitAll (c.fRt.drop h.fSn.toNat) [] = false := by
   cases hx : c.fRt.drop h.fSn.toNat with
   | nil => exact absurd hx hd
   | cons a b => rfl
  have hne : (h.fSn == (c.fRt.length : Int)) = false := by simp; omega
  rw [hfit, hne]
  simp
 ·have hd : c.fRt.drop h.fSn.toNat = [] := zT om
  have heq : (h.fSn == (c.fRt.length : Int)) = true := by simp; omega
  rw [heq] at hf ⊢
  have he : c.fEnd = true := by
   cases h2 : c.fEnd with
   | true => rfl
   | false => rw [h2] at hf; cases hf
  rw [hd, he]
  have : c.fRt.length = ([] : List S48).length + h.fSn.toNat := by simp; omega
  simp [Pr.fitAll]
  omega
theorem RO_full (hf : ful1 r false h = true) (y : List S48) : RO r h y := by
 unfold ful1 at hf
 cases hc : idx r.fCx h.fCt with
 | none => rw [hc] at hf; cases hf
 | some c =>
  rw [hc] at hf
  simp only [Bool.and_eq_true, beq_iff_eq] at hf
  obtain ⟨h1, h2⟩ := hf
  refine ⟨c, hc, ?_⟩
  unfold rOK
  rw [h2, zT om]
  rfl
variable {e : Bool} {l : List S111}
theorem fulB_iff : fulB r l e = true ↔ ∃ h ∈ l, ful1 r e h = true := by unfold fulB; exact List.any_eq_true
theorem fulB_not : fulB r l e = false ↔ ∀ h ∈ l, ful1 r e h = false := by
 unfold fulB
 rw [List.any_eq_false]
 exact ⟨fun h x hx => by simpa using h x hx, fun h x hx => by rw [h x hx]; simp⟩
theorem onS_RO (hv : ∀ h ∈ l, Hv r h) (hf : fulB r l false = false) : (∃ h ∈ l, RO r h (p :: y)) ↔ ∃ h ∈ onS r p l, RO r h y := by
 have hf := fulB_not.1 hf
 constructor
 ·rintro ⟨h, h1, h2⟩
  obtain ⟨g1, g2⟩ := (RO_step (hv h h1) (hf h h1)).1 h2
  exact ⟨_, List.mem_map.2 ⟨h, List.mem_filter.2 ⟨h1, g1⟩, rfl⟩, g2⟩
 ·rintro ⟨h', h1, h2⟩
  obtain ⟨h, h3, rfl⟩ := List.mem_map.1 h1
  obtain ⟨h4, h5⟩ := List.mem_filter.1 h3
  exact ⟨h, h4, (RO_step (hv h h4) (hf h h4)).2 ⟨h5, h2⟩⟩
def some' (r : S57) (H : List S111) (y : List S48) : Prop := ∃ h ∈ H, RO r h y
def posOK (r : S57) (left : List Int) (p : S48) (y : List S48) : Prop := ((neverB r p || otherB r p) = true → ¬ some' r (hereB r.fCx left 0) y) ∧ (ownB r p = true → some' r (hereB r.fCx left 0) y)
def futOK (r : S57) : List Int → List S48 → Prop
 | _, [] => True
 | left, p :: y => posOK r left p y ∧ futOK r (leftsB p r.fCx left) y
structure Spec (r : S57) (s : S82) (y : List S48) : Prop where
 bad : ¬ some' r s.fBad y
 needs : ∀ l ∈ s.fNd, some' r l y
 fut : futOK r s.fLf y
structure Good (r : S57) (s : S82) : Prop where
 bad : fulB r s.fBad false = false
 needs : ∀ l ∈ s.fNd, fulB r l false = false
def runB (r : S57) : List S48 → S82 → Bool
 | [], s => endsB r s
 | p :: y, s => (stepB r s p).2 && runB r y (stepB r s p).1
theorem needsB_spec {r : S57} {p : S48} {y : List S48} : ∀ (xs A : List (List S111)), (∀ x ∈ xs, (∀ h ∈ x, Hv r h) ∧ fulB r x false = false) → (∀ x ∈ A, fulB r x false = false) →
  ((needsB r p xs A).2 = false → ∃ x ∈ xs, ¬ some' r x (p :: y)) ∧ ((needsB r p xs A).2 = true → (∀ x ∈ (needsB r p xs A).1, fulB r x false = false) ∧ ((∀ x ∈ (needsB r p xs A).1, some' r x y) ↔ (∀ x ∈ A, some' r x y) ∧ ∀ x ∈ xs, some' r x (p :: y)))
 | [], A, h1, h2 => ⟨fun h => (by cases h), fun _ => ⟨h2, by simp [needsB]⟩⟩
 | x :: xs, A, h1, h2 => by
  obtain ⟨hv, hf⟩ := h1 x (zH ..)
  have hxs := fun z hz => h1 z (zF x hz)
  have hRO := onS_RO (p := p) (y := y) hv hf
  unfold needsB
  by_cases hz : onS r p x = []
  ·rw [if_pos hz]
   refine ⟨fun _ => ⟨x, zH .., fun h => ?_⟩, fun h => (by cases h)⟩
   obtain ⟨h, h3, _⟩ := hRO.1 h
   rw [hz] at h3
   simp at h3
  ·rw [if_neg hz]
   cases hb : fulB r (onS r p x) false with
   | true =>
    simp only [if_true]
    obtain ⟨g1, g2⟩ := needsB_spec (p := p) (y := y) xs A hxs h2
    refine ⟨fun h => ?_, fun h => ⟨(g2 h).1, ?_⟩⟩
    ·obtain ⟨z, hz, h3⟩ := g1 h
     exact ⟨z, zF _ hz, h3⟩
    ·rw [(g2 h).2]
     obtain ⟨q, q1, q2⟩ := fulB_iff.1 hb
     have hx : some' r x (p :: y) := hRO.2 ⟨q, q1, RO_full q2 y⟩
     simp [hx]
   | false =>
    simp only [Bool.false_eq_true, if_false]
    obtain ⟨g1, g2⟩ := needsB_spec (p := p) (y := y) xs (A ++ [onS r p x]) hxs (fun z hz => by
     rcases List.mem_append.1 hz with h | h
     ·exact h2 z h
     ·simp at h
      subst h
      exact hb)
    refine ⟨fun h => ?_, fun h => ⟨(g2 h).1, ?_⟩⟩
    ·obtain ⟨z, hz, h3⟩ := g1 h
     exact ⟨z, zF _ hz, h3⟩
    ·rw [(g2 h).2]
     have hx : some' r x (p :: y) ↔ some' r (onS r p x) y := hRO
     constructor
     ·rintro ⟨a1, a2⟩
      refine ⟨fun z hz => a1 z (List.mem_append_left _ hz), fun z hz => ?_⟩
      rcases List.mem_cons.1 hz with rfl | hz
      ·exact hx.2 (a1 _ (List.mem_append_right _ (by simp)))
      ·exact a2 z hz
     ·rintro ⟨a1, a2⟩
      refine ⟨fun z hz => ?_, fun z hz => a2 z (zF _ hz)⟩
      rcases List.mem_append.1 hz with h | h
      ·exact a1 z h
      ·simp at h
       subst h
       exact hx.1 (a2 x (zH ..))
theorem runB_spec {r : S57} (hr : RuOk r) : ∀ (y : List S48) (j : Nat) (s : S82), SInv r j s → SV r s → Good r s → (runB r y s = true ↔ Spec r s y)
 | [], j, s, hi, hv, hg => by
  unfold runB endsB
  have hb := fulB_not.1 hg.bad
  constructor
  ·intro h
   simp only [Bool.and_eq_true, Bool.not_eq_true', zZ] at h
   refine ⟨fun ⟨x, h1, h2⟩ => ?_, fun l hl => ?_, trivial⟩
   ·have := (RO_nil (hv.bad x h1) (hb x h1)).1 h2
    have h3 := fulB_not.1 h.1 x h1
    rw [this] at h3
    cases h3
   ·obtain ⟨x, h1, h2⟩ := fulB_iff.1 (h.2 l hl)
    exact ⟨x, h1, (RO_nil (hv.needs l hl x h1) (fulB_not.1 (hg.needs l hl) x h1)).2 h2⟩
  ·intro h
   simp only [Bool.and_eq_true, Bool.not_eq_true', zZ]
   refine ⟨fulB_not.2 fun x h1 => ?_, fun l hl => ?_⟩
   ·cases h2 : ful1 r true x with
    | false => rfl
    | true => exact absurd ⟨x, h1, (RO_nil (hv.bad x h1) (hb x h1)).2 h2⟩ h.bad
   ·obtain ⟨x, h1, h2⟩ := h.needs l hl
    exact fulB_iff.2 ⟨x, h1, (RO_nil (hv.needs l hl x h1) (fulB_not.1 (hg.needs l hl) x h1)).1 h2⟩
 | p :: y, j, s, hi, hv, hg => by
  have hn := hr.n
  have hvs := sv_step p hr hi hv
  have his := sinv_step p hr hi
  obtain ⟨n1, n2⟩ := needsB_spec (r := r) (p := p) (y := y) s.fNd [] (fun x hx => ⟨hv.needs x hx, hg.needs x hx⟩) (fun x hx => by simp at hx)
  have hbad : some' r s.fBad (p :: y) ↔ some' r (onS r p s.fBad) y := onS_RO hv.bad hg.bad
  have hA4 := needsB_v (p := p) s.fNd [] hv.needs (fun x hx => by simp at hx)
  have hA5 := needsB_k (p := p) hr.rok s.fNd [] hi.needk (fun x hx => by simp at hx)
  have h2 := onS_v (p := p) hv.bad
  have h3 := hereB_v r r.fCx s.fLf 0 rfl
  have h3l := hereB_len r.fCx s.fLf 0
  unfold runB
  unfold stepB at hvs his ⊢
  rcases hz : needsB r p s.fNd [] with ⟨A, b⟩
  rw [hz] at n1 n2 hvs his hA4 hA5
  dsimp only at n1 n2 hvs his hA4 hA5
  cases b with
  | false =>
   obtain ⟨x, x1, x2⟩ := n1 rfl
   simp only [Bool.false_and, Bool.false_eq_true, false_iff]
   exact fun h => x2 (h.needs x x1)
  | true =>
   obtain ⟨a1, a2⟩ := n2 rfl
   have a2 : (∀ x ∈ A, some' r x y) ↔ ∀ x ∈ s.fNd, some' r x (p :: y) := by rw [a2]; simp
   dsimp only at hvs his ⊢
   obtain ⟨H, hH⟩ : ∃ H, hereB r.fCx s.fLf 0 = H := ⟨_, rfl⟩
   have hpos : posOK r s.fLf p y ↔ ((neverB r p || otherB r p) = true → ¬ some' r H y) ∧ (ownB r p = true → some' r H y) := by unfold posOK; rw [hH]
   rw [hH] at hvs his h3 h3l ⊢
   have hB1 : some' r (badB r p (onS r p s.fBad) H) y ↔ some' r (onS r p s.fBad) y ∨ ((neverB r p || otherB r p) = true ∧ some' r H y) := by
    unfold badB
    split
    ·rename_i hb
     constructor
     ·rintro ⟨x, x1, x2⟩
      rcases List.mem_append.1 x1 with x1 | x1
      ·exact .inl ⟨x, x1, x2⟩
      ·exact .inr ⟨hb, x, x1, x2⟩
     ·rintro (⟨x, x1, x2⟩ | ⟨_, x, x1, x2⟩)
      ·exact ⟨x, List.mem_append_left _ x1, x2⟩
      ·exact ⟨x, List.mem_append_right _ x1, x2⟩
    ·rename_i hb
     simp [hb]
   have hBv : ∀ h ∈ badB r p (onS r p s.fBad) H, Hv r h := by
    unfold badB
    split
    ·intro x hx
     rcases List.mem_append.1 hx with hx | hx
     ·exact h2 x hx
     ·exact h3 x hx
    ·exact h2
   by_cases hown : ownB r p = true ∧ H = []
   ·rw [if_pos hown]
    simp only [Bool.false_and, Bool.false_eq_true, false_iff]
    intro h
    obtain ⟨x, x1, _⟩ := (hpos.1 h.fut.1).2 hown.1
    rw [hown.2] at x1
    simp at x1
   ·rw [if_neg hown] at hvs his ⊢
    cases hfb : fulB r (badB r p (onS r p s.fBad) H) false with
    | true =>
     simp only [if_true, Bool.false_and, Bool.false_eq_true, false_iff]
     intro h
     obtain ⟨x, x1, x2⟩ := fulB_iff.1 hfb
     rcases hB1.1 ⟨x, x1, RO_full x2 y⟩ with h4 | ⟨h4, h5⟩
     ·exact h.bad (hbad.2 h4)
     ·exact (hpos.1 h.fut.1).1 h4 h5
    | false =>
     rw [hfb] at hvs his
     simp only [Bool.false_eq_true, if_false, Bool.true_and] at hvs his ⊢
     -- the needs
     have hNk : ∀ x ∈ ownN r p H A, (x.length ≤ 1000000 ∧ ∀ h ∈ x, Hok r h) ∧ fulB r x false = false := by
      have hAk : ∀ x ∈ A, (x.length ≤ 1000000 ∧ ∀ h ∈ x, Hok r h) ∧ fulB r x false = false := fun x hx => ⟨⟨by have := (hA5 x hx).1; omega, (hA5 x hx).2⟩, a1 x hx⟩
      unfold ownN
      split
      ·cases hfh : fulB r H false with
       | true => exact hAk
       | false =>
        intro x hx
        simp only [Bool.false_eq_true, if_false] at hx
        rcases List.mem_append.1 hx with hx | hx
        ·exact hAk x hx
        ·simp at hx
         subst hx
         exact ⟨⟨om, fun h hh => (h3 h hh).ok hr⟩, hfh⟩
      ·exact hAk
     have hNs : (∀ x ∈ ownN r p H A, some' r x y) ↔ (∀ x ∈ A, some' r x y) ∧ (ownB r p = true → some' r H y) := by
      unfold ownN
      split
      ·rename_i ho
       cases hfh : fulB r H false with
       | true =>
        obtain ⟨x, x1, x2⟩ := fulB_iff.1 hfh
        have : some' r H y := ⟨x, x1, RO_full x2 y⟩
        simp [this]
       | false =>
        simp only [Bool.false_eq_true, if_false]
        constructor
        ·intro h
         exact ⟨fun x hx => h x (List.mem_append_left _ hx), fun _ => h H (List.mem_append_right _ (by simp))⟩
        ·rintro ⟨h4, h5⟩ x hx
         rcases List.mem_append.1 hx with hx | hx
         ·exact h4 x hx
         ·simp at hx
          subst hx
          exact h5 ho
      ·rename_i ho
       simp [ho]
     have hmB : ∀ x, x ∈ ordH (badB r p (onS r p s.fBad) H) ↔ x ∈ badB r p (onS r p s.fBad) H := fun x => ordH_iff (r := r) om (fun h hh => (hBv h hh).ok hr)
     have hmN : ∀ x, x ∈ ordL (ownN r p H A) ↔ x ∈ ownN r p H A := fun x => ordL_iff (r := r) om (fun z hz => (hNk z hz).1)
     have hgood : Good r ⟨leftsB p r.fCx s.fLf, ordH (badB r p (onS r p s.fBad) H), ordL (ownN r p H A)⟩ :=
      ⟨fulB_not.2 fun x hx => fulB_not.1 hfb x ((hmB x).1 hx), fun x hx => (hNk x ((hmN x).1 hx)).2⟩
     rw [runB_spec hr y (j + 1) _ his hvs hgood]
     constructor
     ·intro h
      have hb := h.bad
      have hb' : ¬ some' r (badB r p (onS r p s.fBad) H) y := fun ⟨x, x1, x2⟩ => hb ⟨x, (hmB x).2 x1, x2⟩
      rw [hB1] at hb'
      have hn' := hNs.1 fun x hx => h.needs x ((hmN x).2 hx)
      exact ⟨fun h4 => hb' (.inl (hbad.1 h4)), a2.1 hn'.1, hpos.2 ⟨fun h4 h5 => hb' (.inr ⟨h4, h5⟩), hn'.2⟩, h.fut⟩
     ·intro h
      have hp := hpos.1 h.fut.1
      refine ⟨fun ⟨x, x1, x2⟩ => ?_, fun x hx => hNs.2 ⟨a2.2 h.needs, hp.2⟩ x ((hmN x).1 hx), h.fut.2⟩
      rcases hB1.1 ⟨x, (hmB x).1 x1, x2⟩ with h4 | ⟨h4, h5⟩
      ·exact h.bad (hbad.2 h4)
      ·exact hp.1 h4 h5
theorem fit_app : ∀ (A B C : List S48), A.length ≤ B.length → Pr.fitAll A (B ++ C) = Pr.fitAll A B
 | [], B, C, _ => rfl
 | a :: A, [], C, h => by simp at h
 | a :: A, b :: B, C, h => by
  show (Pr.fitS a b && Pr.fitAll A (B ++ C)) = (Pr.fitS a b && Pr.fitAll A B)
  rw [fit_app A B C (by simpa using h)]
theorem fit_snoc : ∀ (A B : List S48) (q p : S48), A.length = B.length → Pr.fitAll (A ++ [q]) (B ++ [p]) = (Pr.fitAll A B && fitB q p)
 | [], [], q, p, _ => by
  show (Pr.fitS q p && true) = (true && fitB q p)
  rw [Bool.and_true, Bool.true_and]
  rfl
 | [], b :: B, q, p, h => by simp at h
 | a :: A, [], q, p, h => by simp at h
 | a :: A, b :: B, q, p, h => by
  show (Pr.fitS a b && Pr.fitAll (A ++ [q]) (B ++ [p])) = (Pr.fitS a b && Pr.fitAll A B && fitB q p)
  rw [fit_snoc A B q p (by simpa using h), Bool.and_assoc]
theorem fit_len : ∀ {A B : List S48}, Pr.fitAll A B = true → A.length ≤ B.length
 | [], B, _ => Nat.zero_le _
 | a :: A, [], h => by cases h
 | a :: A, b :: B, h => by
  have h : (Pr.fitS a b && Pr.fitAll A B) = true := h
  rw [Bool.and_eq_true] at h
  have := fit_len h.2
  simp; omega
def LB (c : S72) (u : List S48) (j : Nat) : Prop := j ≤ u.length ∧ Pr.fitAll (c.fLf.take j) (u.drop (u.length - j)) = true ∧ (c.fBg = true → j = u.length)
theorem spotB_bits {p : S48} {l : Nat} (hl : l < 16) : ∀ (q : List S48) (k b : Nat), k + q.length ≤ 3 → b < 16 → ∃ x : Nat, spotB (l : Int) p q k (b : Int) = (x : Int) ∧ x < 16 ∧ ∀ m, x.testBit m = (b.testBit m || (decide (k < m) && match q[m - 1 - k]? with
  | some s => l.testBit (m - 1) && fitB s p
  | none => false))
 | [], k, b, h1, h2 => ⟨b, rfl, h2, fun m => by simp⟩
 | a :: q, k, b, h1, h2 => by
  rw [List.length_cons] at h1
  have hb := bit_nat ⟨l, hl⟩ ⟨k, om⟩
  dsimp only at hb
  unfold spotB
  rw [hb]
  have key : ∀ (b' : Nat), b' < 16 → (∀ m, b'.testBit m = (b.testBit m || (decide (k + 1 = m) && (l.testBit k && fitB a p)))) → ∃ x : Nat, spotB (l : Int) p q (k + 1) (b' : Int) = (x : Int) ∧ x < 16 ∧ ∀ m, x.testBit m = (b.testBit m || (decide (k < m) && match (a :: q)[m - 1 - k]? with
    | some s => l.testBit (m - 1) && fitB s p
    | none => false)) := by
   intro b' h3 h4
   obtain ⟨x, e1, e2, e3⟩ := spotB_bits hl q (k + 1) b' om h3
   refine ⟨x, e1, e2, fun m => ?_⟩
   rw [e3, h4, Bool.or_assoc]
   congr 1
   by_cases hm : k + 1 = m
   ·subst hm
    simp
   ·by_cases hm2 : k < m
    ·have e4 : m - 1 - k = (m - 1 - (k + 1)) + 1 := by omega
     have e5 : decide (k + 1 < m) = true := by simp; omega
     rw [decide_eq_false hm, decide_eq_true hm2, e5, e4]
     simp
    ·have e5 : decide (k + 1 < m) = false := by simp; omega
     rw [decide_eq_false hm, decide_eq_false hm2, e5]
     simp
  by_cases hc : (l.testBit k && fitB a p) = true
  ·rw [if_pos hc]
   have e := or_nat ⟨b, h2⟩ ⟨k, om⟩
   have e2 := or_lt ⟨b, h2⟩ ⟨k, om⟩
   dsimp only at e e2
   rw [e]
   refine key _ e2 fun m => ?_
   rw [Nat.testBit_or, Nat.testBit_two_pow, hc, Bool.and_true]
  ·rw [if_neg hc]
   refine key b h2 fun m => ?_
   have : (l.testBit k && fitB a p) = false := by simpa using hc
   rw [this, Bool.and_false, Bool.or_false]
theorem one_bit (j : Nat) : Nat.testBit 1 j = decide (j = 0) := by
 cases j with
 | zero => rfl
 | succ j => simp [Nat.testBit_succ]
def lefts (r : S57) (u : List S48) : List Int := u.foldl (fun l p => leftsB p r.fCx l) (List.replicate r.fCx.length 1)
theorem lefts_snoc (r : S57) (u : List S48) (p : S48) : lefts r (u ++ [p]) = leftsB p r.fCx (lefts r u) := by unfold lefts; rw [List.foldl_append]; rfl
theorem leftsB_get {p : S48} : ∀ {cs : List S72} {ls : List Int} {i : Nat} {c : S72} {l : Int}, cs[i]? = some c → ls[i]? = some l → (leftsB p cs ls)[i]? = some (leftB p c l)
 | [], ls, i, c, l, h1, h2 => by simp at h1
 | a :: cs, [], i, c, l, h1, h2 => by simp at h2
 | a :: cs, b :: ls, 0, c, l, h1, h2 => by
  simp at h1 h2
  subst h1 h2
  rfl
 | a :: cs, b :: ls, i + 1, c, l, h1, h2 => by
  have := leftsB_get (p := p) (cs := cs) (ls := ls) (i := i) (c := c) (l := l) (by simpa using h1) (by simpa using h2)
  simpa [leftsB] using this
variable {c : S72} {p : S48} {u : List S48}
theorem LB_snoc {j : Nat} {q : S48} (hq : c.fLf[j]? = some q) : LB c (u ++ [p]) (j + 1) ↔ LB c u j ∧ fitB q p = true := by
 have hj := yE hq
 have ht : c.fLf.take (j + 1) = c.fLf.take j ++ [q] := by rw [List.take_add_one, hq]; rfl
 unfold LB
 rw [List.length_append, List.length_singleton]
 by_cases h : j ≤ u.length
 ·rw [ht, show u.length + 1 - (j + 1) = u.length - j by omega, List.drop_append_of_le_length om, fit_snoc _ _ _ _ (by rw [zW, List.length_drop]; omega), Bool.and_eq_true]
  constructor
  ·rintro ⟨_, ⟨h2, h3⟩, h4⟩
   exact ⟨⟨h, h2, fun hb => by have := h4 hb; omega⟩, h3⟩
  ·rintro ⟨⟨_, h2, h4⟩, h3⟩
   exact ⟨om, ⟨h2, h3⟩, fun hb => by have := h4 hb; omega⟩
 ·constructor
  ·rintro ⟨h1, _⟩
   omega
  ·rintro ⟨⟨h1, _⟩, _⟩
   omega
theorem lefts_bits {r : S57} (hr : RuOk r) : ∀ (v : List S48) (i : Nat) (c : S72), r.fCx[i]? = some c → ∃ x : Nat, (lefts r v.reverse)[i]? = some (x : Int) ∧ x < 16 ∧ ∀ j, j ≤ c.fLf.length → (x.testBit j = true ↔ LB c v.reverse j)
 | [], i, c, hc => by
  have hi := yE hc
  refine ⟨1, ?_, om, fun j hj => ?_⟩
  ·show (List.replicate r.fCx.length (1 : Int))[i]? = _
   rw [zU, if_pos hi]
   rfl
  ·rw [one_bit]
   unfold LB
   constructor
   ·intro h
    have : j = 0 := by simpa using h
    subst this
    exact ⟨zL _, rfl, fun _ => rfl⟩
   ·rintro ⟨h, _⟩
    simp at h
    simp [h]
 | p :: v, i, c, hc => by
  obtain ⟨x, h1, h2, h3⟩ := lefts_bits hr v i c hc
  have hcl := hr.cl c (zE hc)
  rw [List.reverse_cons, lefts_snoc, leftsB_get hc h1]
  generalize v.reverse = u at h3
  unfold leftB
  have main : ∀ b : Nat, b < 16 → (b.testBit 0 = true ↔ c.fBg = false) → (∀ j, b.testBit (j + 1) = false) → ∃ y : Nat, spotB (x : Int) p c.fLf 0 (b : Int) = (y : Int) ∧ y < 16 ∧ ∀ j, j ≤ c.fLf.length → (y.testBit j = true ↔ LB c (u ++ [p]) j) := by
   intro b hb hb0 hb1
   obtain ⟨y, e1, e2, e3⟩ := spotB_bits (p := p) h2 c.fLf 0 b om hb
   refine ⟨y, e1, e2, fun j hj => ?_⟩
   rw [e3]
   cases j with
   | zero =>
    simp only [Nat.lt_irrefl, decide_false, Bool.false_and, Bool.or_false]
    rw [hb0]
    unfold LB
    rw [List.length_append, List.length_singleton]
    constructor
    ·intro h
     exact ⟨Nat.zero_le _, rfl, fun h' => by rw [h] at h'; cases h'⟩
    ·rintro ⟨_, _, h⟩
     cases hx : c.fBg with
     | false => rfl
     | true => have := h hx; omega
   | succ j =>
    have hq : c.fLf[j]? = some c.fLf[j] := zA om
    rw [hb1, LB_snoc hq, ← h3 j om]
    have e4 : j + 1 - 1 - 0 = j := by omega
    have e5 : j + 1 - 1 = j := by omega
    rw [e4, e5, hq]
    simp
  cases hb : c.fBg with
  | true =>
   obtain ⟨y, e1, e2⟩ := main 0 om (by simp [hb]) (fun j => by simp)
   exact ⟨y, by simp only [if_true]; exact congrArg some e1, e2⟩
  | false =>
   obtain ⟨y, e1, e2⟩ := main 1 om (by simp [hb]) (fun j => by rw [one_bit]; simp)
   exact ⟨y, by simp only [Bool.false_eq_true, if_false]; exact congrArg some e1, e2⟩
theorem hereB_iff {h : S111} : ∀ {cs : List S72} {ls : List Int} {i : Nat}, h ∈ hereB cs ls i ↔ ∃ (m : Nat) (c : S72) (l : Int), cs[m]? = some c ∧ ls[m]? = some l ∧ bitB l c.fLf.length = true ∧ h = ⟨((i + m : Nat) : Int), 0⟩
 | [], ls, i => by simp [hereB]
 | c :: cs, [], i => by simp [hereB]
 | c :: cs, l :: ls, i => by
  unfold hereB
  rw [List.mem_append, hereB_iff]
  constructor
  ·rintro (h1 | ⟨m, c', l', a1, a2, a3, a4⟩)
   ·split at h1
    ·rename_i hb
     simp at h1
     exact ⟨0, c, l, rfl, rfl, hb, h1⟩
    ·simp at h1
   ·exact ⟨m + 1, c', l', by simpa using a1, by simpa using a2, a3, by rw [a4, show i + 1 + m = i + (m + 1) by omega]⟩
  ·rintro ⟨m, c', l', a1, a2, a3, a4⟩
   cases m with
   | zero =>
    simp at a1 a2
    subst a1 a2
    left
    rw [if_pos a3, a4]
    simp
   | succ m =>
    right
    exact ⟨m, c', l', by simpa using a1, by simpa using a2, a3, by rw [a4, show i + 1 + m = i + (m + 1) by omega]⟩
variable {y : List S48}
theorem around_iff : Pr.aroundS c (u ++ p :: y) u.length = true ↔ LB c u c.fLf.length ∧ rOK c 0 y = true := by
 unfold Pr.aroundS LB rOK
 have hd : (u ++ p :: y).drop (u.length + 1) = y := by
  rw [List.drop_append, zT om, show u.length + 1 - u.length = 1 by omega]
  rfl
 rw [hd, List.drop_zero, zX (zL _), Bool.and_eq_true, Bool.and_eq_true, Bool.and_eq_true, decide_eq_true_eq, Bool.or_eq_true, Bool.not_eq_true', decide_eq_true_eq]
 unfold Pr.placeS
 rw [List.length_append, List.length_cons]
 by_cases h : c.fLf.length ≤ u.length
 ·rw [List.drop_append_of_le_length om, fit_app _ _ _ (by rw [List.length_drop]; omega)]
  constructor
  ·rintro ⟨⟨a1, a2, a3, a4⟩, a5, a6⟩
   refine ⟨⟨h, a5, fun hb => (a3 hb).symm⟩, a6, ?_⟩
   cases hx : c.fEnd with
   | false => exact .inl rfl
   | true => right; have := a4 hx; omega
  ·rintro ⟨⟨a1, a2, a3⟩, a4, a5⟩
   have := fit_len a4
   refine ⟨⟨h, om, fun hb => (a3 hb).symm, fun he => ?_⟩, a2, a4⟩
   rcases a5 with h5 | h5
   ·rw [he] at h5; cases h5
   ·omega
 ·constructor
  ·rintro ⟨⟨a1, _⟩, _⟩
   omega
  ·rintro ⟨⟨a1, _⟩, _⟩
   omega
variable {r : S57}
theorem any_iff (hr : RuOk r) : some' r (hereB r.fCx (lefts r u) 0) y ↔ Pr.anyS r (u ++ p :: y) u.length = true := by
 unfold Pr.anyS
 rw [List.any_eq_true]
 have hlb := fun i c hc => lefts_bits hr u.reverse i c hc
 rw [List.reverse_reverse] at hlb
 have bit : ∀ (x k : Nat), x < 16 → k ≤ 3 → bitB (x : Int) k = x.testBit k := fun x k h1 h2 => bit_nat ⟨x, h1⟩ ⟨k, om⟩
 constructor
 ·rintro ⟨h, h1, c, h2, h3⟩
  obtain ⟨m, c', l, a1, a2, a3, rfl⟩ := hereB_iff.1 h1
  obtain ⟨x, b1, b2, b3⟩ := hlb m c' a1
  rw [b1] at a2
  cases a2
  have hcl := hr.cl c' (zE a1)
  rw [bit x _ b2 hcl] at a3
  have h2 : idx r.fCx ((0 + m : Nat) : Int) = some c := h2
  rw [Nat.zero_add, idx_get, a1] at h2
  cases h2
  exact ⟨_, zE a1, around_iff.2 ⟨(b3 _ (zL _)).1 a3, h3⟩⟩
 ·rintro ⟨c, hc, h1⟩
  obtain ⟨m, hm⟩ := List.getElem?_of_mem hc
  obtain ⟨x, b1, b2, b3⟩ := hlb m c hm
  have hcl := hr.cl c hc
  obtain ⟨h2, h3⟩ := around_iff.1 h1
  refine ⟨⟨((0 + m : Nat) : Int), 0⟩, hereB_iff.2 ⟨m, c, x, hm, b1, by rw [bit x _ b2 hcl]; exact (b3 _ (zL _)).2 h2, rfl⟩, c, ?_, h3⟩
  show idx r.fCx ((0 + m : Nat) : Int) = some c
  rw [Nat.zero_add, idx_get]
  exact hm
theorem pos_iff (hr : RuOk r) (hk : 1 ≤ r.fKn ∧ r.fKn ≤ 4) : posOK r (lefts r u) p y ↔ Pr.obeyS r (u ++ p :: y) u.length p = true := by
 unfold posOK
 rw [any_iff hr (p := p)]
 unfold Pr.obeyS neverB otherB ownB
 have hs : Pr.sameS r p = eq48 p r.fPr := rfl
 rw [hs]
 cases Pr.anyS r (u ++ p :: y) u.length <;> cases hE : eq48 p r.fPr <;> rcases (show r.fKn = 1 ∨ r.fKn = 2 ∨ r.fKn = 3 ∨ r.fKn = 4 by omega) with h | h | h | h <;> rw [h] <;> cases hL : (p.fLx == r.fPr.fLx) <;> simp_all [bne]
theorem fut_iff {r : S57} (hr : RuOk r) (hk : 1 ≤ r.fKn ∧ r.fKn ≤ 4) : ∀ (y u : List S48), futOK r (lefts r u) y ↔ Pr.allP (fun i p => Pr.obeyS r (u ++ y) i.toNat p) (u.length : Int) y = true
 | [], u => by simp [futOK, Pr.allP]
 | p :: y, u => by
  unfold futOK Pr.allP
  rw [Bool.and_eq_true, pos_iff hr hk, ← lefts_snoc, fut_iff hr hk y (u ++ [p]), List.append_assoc, List.length_append, List.length_singleton]
  simp
theorem run_iff (hr : RuOk r) (hk : 1 ≤ r.fKn ∧ r.fKn ≤ 4) (x : List S48) : runB r x (Tw.start r) = true ↔ Pr.obeyedS x r = true := by
 rw [runB_spec hr x 0 (Tw.start r) (sinv_start r) (sv_start r) ⟨rfl, fun l hl => by simp at hl⟩]
 have := fut_iff hr hk x []
 unfold Pr.obeyedS
 rw [show lefts r [] = (Tw.start r).fLf from rfl] at this
 rw [show ((([] : List S48).length : Nat) : Int) = 0 from rfl, List.nil_append] at this
 rw [← this]
 exact ⟨fun h => h.fut, fun h => ⟨fun ⟨x, x1, _⟩ => by simp at x1, fun l hl => by simp at hl, h⟩⟩
theorem sacc_run {r : S57} {ps : List S48} : ∀ (w : List Nat) (x : List S48) (s : S82), w.map (fun k => ps[k]?) = x.map some → sacc (stepN r ps) (endsB r) w s = runB r x s
 | [], [], s, _ => rfl
 | [], _ :: _, s, h => by simp at h
 | _ :: _, [], s, h => by simp at h
 | k :: w, p :: x, s, h => by
  simp only [List.map_cons, List.cons.injEq] at h
  unfold sacc runB stepN
  rw [h.1]
  dsimp only
  cases (stepB r s p).2 with
  | false => rfl
  | true =>
   simp only [if_true, Bool.true_and]
   exact sacc_run w x _ h.2
open Go.Sort Go.Proofs Go.Abs.Ta Go.Abs.Tc Go.Abs.Te Go.Abs.Tf Go.Abs.Tg Go.Abs.Th Go.Abs.Ts Go.Abs.Tw Go.Abs.Ty
theorem okF_ne {f : S29} (h : f.fCo ≠ 0) : okF f = false := by
 unfold okF
 rw [show (f.fCo == 0) = false by simpa using h]
 rfl
theorem f25_iter (m0 : Nat) (ps : List S48) (hps : ps.length ≤ 300) : ∀ (m i : Nat), i ≤ ps.length → ps.length < m + i → ∃ o, iter (fun (y : Bool × Int) => f25_B4 m0 ps y.1 y.2) m (true, (i : Int)) = some o ∧ ∀ v, o = .inl v → v.fCo ≠ 0
 | 0, i, h1, h2 => by omega
 | m + 1, i, h1, h2 => by
  by_cases hi : i < ps.length
  ·have hx : ps[i]? = some ps[i] := zA hi
   generalize ps[i] = p at hx
   obtain ⟨o, e, g⟩ := f25_iter m0 ps hps m (i + 1) om om
   have next : ∃ o, iter (fun (y : Bool × Int) => f25_B4 m0 ps y.1 y.2) m (true, w64 ((i : Int) + 1)) = some o ∧ ∀ v, o = .inl v → v.fCo ≠ 0 := by
    rw [w64_nat om]
    exact ⟨o, e, g⟩
   have r1 : ∀ b, ∃ s, f25_r1 m0 (i : Int) true b = some s ∧ (s = .nxt (true, w64 ((i : Int) + 1)) ∨ ∃ v, s = .ret v ∧ v.fCo ≠ 0) := fun b => by
    cases b with
    | true => exact ⟨_, rfl, .inr ⟨_, rfl, by show (13 : Int) ≠ 0; omega⟩⟩
    | false => exact ⟨_, rfl, .inl rfl⟩
   have fin : (∃ s, f25_B4 m0 ps true (i : Int) = some s ∧ (s = .nxt (true, w64 ((i : Int) + 1)) ∨ ∃ v, s = .ret v ∧ v.fCo ≠ 0)) → ∃ o, iter (fun (y : Bool × Int) => f25_B4 m0 ps y.1 y.2) (m + 1) (true, (i : Int)) = some o ∧ ∀ v, o = .inl v → v.fCo ≠ 0 := by
    rintro ⟨s, h3, h4⟩
    unfold iter
    dsimp only
    rw [h3]
    rcases h4 with rfl | ⟨v, rfl, h5⟩
    ·exact next
    ·exact ⟨_, rfl, fun v' hv => by cases hv; exact h5⟩
   refine fin ?_
   unfold f25_B4
   rw [show decide ((i : Int) < (ps.length : Int)) = true by simp; omega, idx_get, hx]
   simp only [cnd_true, bnd_some', Pr.f45_eq]
   have r3 : ∀ b, ∃ s, f25_r3 m0 ps true (i : Int) p b = some s ∧ (s = .nxt (true, w64 ((i : Int) + 1)) ∨ ∃ v, s = .ret v ∧ v.fCo ≠ 0) := fun b => by
    unfold f25_r3
    cases b with
    | true => exact ⟨_, rfl, .inr ⟨_, rfl, by show (3 : Int) ≠ 0; omega⟩⟩
    | false =>
     rw [cnd_false]
     cases (p.fLx == 0 && (p.fSf == 0 && true)) with
     | true => exact ⟨_, rfl, .inr ⟨_, rfl, by show (5 : Int) ≠ 0; omega⟩⟩
     | false =>
      rw [cnd_false, Bool.true_and]
      unfold f25_r2
      by_cases h0 : (i : Int) > 0
      ·rw [decide_eq_true h0, cnd_true]
       have e1 : w64 ((i : Int) - 1) = ((i - 1 : Nat) : Int) := by rw [w64_id ⟨om, om⟩]; omega
       have hy : ps[i - 1]? = some ps[i - 1] := zA om
       rw [e1, idx_get, hy]
       simp only [bnd_some']
       cases decide (ps[i - 1].fLx < p.fLx) with
       | true => exact r1 _
       | false =>
        rw [cnd_false]
        cases (ps[i - 1].fLx == p.fLx) with
        | true => exact r1 _
        | false => exact r1 _
      ·rw [decide_eq_false h0, cnd_false]
       exact r1 _
   cases decide (0 ≤ p.fLx ∧ p.fLx ≤ 1114111) with
   | true => exact r3 _
   | false => exact r3 _
  ·have hB : f25_B4 m0 ps true (i : Int) = some (.brk (true, (i : Int))) := by
    unfold f25_B4
    rw [show decide ((i : Int) < (ps.length : Int)) = false by simp; omega]
    rfl
   unfold iter
   dsimp only
   rw [hB]
   exact ⟨_, rfl, fun v hv => by cases hv⟩
theorem f25_to (ps : List S48) : ∃ g, f25 1000000 ps 300 true = some g ∧ (okF g = false ∨ g = ⟨0, 0⟩ ∧ ps.length ≤ 300) := by
 unfold f25
 by_cases h : (ps.length : Int) > 300
 ·rw [decide_eq_true h, cnd_true]
  exact ⟨_, rfl, .inl rfl⟩
 ·rw [decide_eq_false h, cnd_false]
  obtain ⟨o, e, g⟩ := f25_iter 1000000 ps om 1000000 0 (Nat.zero_le _) om
  rw [show ((0 : Nat) : Int) = 0 from rfl] at e
  rw [e]
  cases o with
  | inl v => exact ⟨v, rfl, .inl (okF_ne (g v rfl))⟩
  | inr a => exact ⟨_, rfl, .inr ⟨rfl, om⟩⟩
theorem okRule_ru {r : S57} (h : Pr.okRule r) : RuOk r := ⟨h.2.1, fun c hc => (h.2.2 c hc).1, fun c hc => (h.2.2 c hc).2.1⟩
theorem rules_ru {rules : List S57} (h : f24 1000000 rules = some ⟨0, 0⟩) : ∀ r ∈ rules, RuOk r := by
 rw [Pr.f24_eq 1000000 rules om] at h
 rcases Pr.rulesS_ok rules with ⟨v, h1, h2⟩ | ⟨_, _, h3⟩
 ·rw [h1] at h
  cases h
  exact absurd rfl h2
 ·exact fun r hr => okRule_ru (h3 r hr)
def pacc (M : S27) : List S48 → Int → Prop
 | [], s => ∃ x ∈ M.fFn, x.fSe = s
 | p :: y, s => ∃ a ∈ M.fAs, a.fFr = s ∧ a.fIn = p.fLx ∧ a.fOut = p.fSf ∧ pacc M y a.fTo
structure MP (M : S27) : Prop where
 st : ∃ N : Nat, M.fSt = (N : Int) ∧ N ≤ 400
 arc : ∀ a ∈ M.fAs, (0 ≤ a.fFr ∧ a.fFr < M.fSt) ∧ 0 ≤ a.fTo ∧ a.fTo < M.fSt
 fin : ∀ x ∈ M.fFn, 0 ≤ x.fSe ∧ x.fSe < M.fSt
 al : M.fAs.length ≤ 2000
 fl : M.fFn.length ≤ 400
theorem outA_to {n : Nat} {ps : List S48} (hn : ps.length = n) (hn3 : n ≤ 300) : ∀ (l : List S52), (∀ a ∈ l, ∃ i j k : Nat, a = ⟨i, j, (k : Int) + 1, (k : Int) + 1, 0⟩ ∧ k < n) →
  ∃ A, outA ps l = some A ∧ A.length = l.length ∧ (∀ b ∈ A, ∃ a ∈ l, ∃ (k : Nat) (p : S48), a.fIn = (k : Int) + 1 ∧ ps[k]? = some p ∧ b = ⟨a.fFr, a.fTo, p.fLx, p.fSf, a.fWt⟩) ∧
   ∀ a ∈ l, ∀ (k : Nat) p, a.fIn = (k : Int) + 1 → ps[k]? = some p → (⟨a.fFr, a.fTo, p.fLx, p.fSf, a.fWt⟩ : S52) ∈ A
 | [], h => ⟨[], rfl, rfl, fun b hb => by simp at hb, fun a ha => by simp at ha⟩
 | a :: l, h => by
  obtain ⟨A, e, g1, g2, g3⟩ := outA_to hn hn3 l (fun a ha => h a (zF _ ha))
  obtain ⟨i, j, k, ha, hk⟩ := h a (zH ..)
  have hp : ps[k]? = some ps[k] := zA om
  generalize ps[k] = p at hp
  have hin : a.fIn = (k : Int) + 1 := by rw [ha]
  have hix : idx ps (w64 (a.fIn - 1)) = some p := by
   rw [hin, show (k : Int) + 1 - 1 = (k : Int) by omega, w64_id ⟨om, om⟩, idx_get]
   exact hp
  unfold outA
  rw [hix, e]
  refine ⟨_, rfl, by simp [g1], fun b hb => ?_, fun a' ha' k' p' hk' hp' => ?_⟩
  ·rcases List.mem_cons.1 hb with rfl | hb
   ·exact ⟨a, zH .., k, p, hin, hp, rfl⟩
   ·obtain ⟨a', h1, h2⟩ := g2 b hb
    exact ⟨a', zF _ h1, h2⟩
  ·rcases List.mem_cons.1 ha' with rfl | ha'
   ·have : k' = k := by rw [hin] at hk'; omega
    subst this
    rw [hp] at hp'
    cases hp'
    exact zH ..
   ·exact zF _ (g3 a' ha' k' p' hk' hp')
theorem pacc_iff {n : Nat} {ps : List S48} (hn : ps.length = n) {M : S27} (hM : MOk n M) {A : List S52} (h1 : ∀ b ∈ A, ∃ a ∈ M.fAs, ∃ (k : Nat) (p : S48), a.fIn = (k : Int) + 1 ∧ ps[k]? = some p ∧ b = ⟨a.fFr, a.fTo, p.fLx, p.fSf, a.fWt⟩)
  (h2 : ∀ a ∈ M.fAs, ∀ (k : Nat) p, a.fIn = (k : Int) + 1 → ps[k]? = some p → (⟨a.fFr, a.fTo, p.fLx, p.fSf, a.fWt⟩ : S52) ∈ A) : ∀ (x : List S48) (s : Int), pacc ⟨M.fSt, A, M.fFn⟩ x s ↔ ∃ w : List Nat, w.map (fun k => ps[k]?) = x.map some ∧ macc M w s
 | [], s => by
  constructor
  ·intro h
   exact ⟨[], rfl, h⟩
  ·rintro ⟨w, hw, h⟩
   cases w with
   | nil => exact h
   | cons k w => simp at hw
 | p :: x, s => by
  constructor
  ·rintro ⟨b, hb, b1, b2, b3, b4⟩
   obtain ⟨a, ha, k, q, hk, hq, rfl⟩ := h1 b hb
   obtain ⟨w, hw, hm⟩ := (pacc_iff hn hM h1 h2 x a.fTo).1 b4
   have hqp : q = p := by
    cases q; cases p
    simp only [S48.mk.injEq]
    exact ⟨b2, b3⟩
   subst hqp
   exact ⟨k :: w, by simp only [List.map_cons, hq, hw], a, ha, b1, hk, hm⟩
  ·rintro ⟨w, hw, hm⟩
   cases w with
   | nil => simp at hw
   | cons k w =>
    simp only [List.map_cons, List.cons.injEq] at hw
    obtain ⟨a, ha, a1, a2, a3⟩ := hm
    exact ⟨_, h2 a ha k p a2 hw.1, a1, rfl, rfl, (pacc_iff hn hM h1 h2 x a.fTo).2 ⟨w, hw.2, a3⟩⟩
theorem f7_to (rules : List S57) (ps : List S48) (m : Nat) (hm : 10000000 ≤ m) : ∃ M f, f7c m rules ps = some (M, f) ∧
  (okF f = false ∨ f = ⟨0, 0⟩ ∧ (∀ r ∈ rules, Pr.okRule r) ∧ MP M ∧ ∀ x, pacc M x 0 ↔ (∃ w : List Nat, w.map (fun k => ps[k]?) = x.map some) ∧ ∀ r ∈ rules, Pr.obeyedS x r = true) := by
 unfold f7c
 rw [Pr.f24_eq 1000000 rules om]
 rcases Pr.rulesS_ok rules with ⟨v, h1, h2⟩ | ⟨h1, h2, h3⟩
 ·rw [h1]
  dsimp only
  rw [okF_ne h2]
  exact ⟨_, _, rfl, .inl (okF_ne h2)⟩
 ·rw [h1]
  dsimp only
  rw [show okF ⟨0, 0⟩ = true from rfl, if_pos rfl]
  obtain ⟨g, e, hg⟩ := f25_to ps
  rw [e]
  dsimp only
  rcases hg with hg | ⟨rfl, hps⟩
  ·rw [hg]
   exact ⟨_, _, rfl, .inl hg⟩
  ·rw [show okF ⟨0, 0⟩ = true from rfl, if_pos rfl, if_pos ⟨hps, om⟩]
   have hok : OkT [List.replicate ps.length 0] [true] ps.length := ⟨by simp, rfl, fun r hr => by simp at hr; subst hr; simp, fun r hr t ht => by
    simp at hr; subst hr
    have := (List.mem_replicate.1 ht).2
    subst this
    simp⟩
   obtain ⟨M0, f0, e0, h0⟩ := f47_to hps hok m hm
   rw [e0]
   dsimp only
   rcases h0 with rfl | ⟨rfl, hM0, hL0⟩
   ·obtain ⟨M', e1⟩ := compL_bad m ps rules M0 ⟨17, -1⟩ rfl
    rw [e1]
    exact ⟨_, _, rfl, .inl rfl⟩
   ·obtain ⟨M1, f1, e1, h4⟩ := compL_to hps m hm rules M0 (fun r hr => okRule_ru (h3 r hr)) hM0
    rcases h4 with rfl | ⟨rfl, hM1, hL1⟩
    ·rw [e1]
     exact ⟨_, _, rfl, .inl rfl⟩
    ·rw [e1]
     dsimp only
     unfold outM
     rw [show okF ⟨0, 0⟩ = true from rfl, if_pos rfl]
     obtain ⟨A, e2, g1, g2, g3⟩ := outA_to (n := ps.length) rfl hps M1.fAs (fun a ha => by
      obtain ⟨i, j, k, b1, _, _, b4⟩ := hM1.arc a ha
      exact ⟨i, j, k, b1, b4⟩)
     have hal := hM1.al
     rw [e2]
     dsimp only
     rw [if_pos om]
     refine ⟨_, _, rfl, .inr ⟨rfl, h3, ⟨hM1.st, fun b hb => ?_, fun x hx => ?_, by rw [g1]; exact hal, hM1.fl⟩, fun x => ?_⟩⟩
     ·obtain ⟨a, ha, k, p, _, _, rfl⟩ := g2 b hb
      obtain ⟨i, j, k, b1, b2, b3, _⟩ := hM1.arc a ha
      subst b1
      exact ⟨⟨by show (0 : Int) ≤ i; omega, b2⟩, by show (0 : Int) ≤ j; omega, b3⟩
     ·obtain ⟨i, b1, b2⟩ := hM1.fin x hx
      subst b1
      exact ⟨by show (0 : Int) ≤ i; omega, b2⟩
     ·rw [pacc_iff rfl hM1 g2 g3]
      have lang : ∀ w : List Nat, w.map (fun k => ps[k]?) = x.map some → (macc M1 w 0 ↔ ∀ r ∈ rules, Pr.obeyedS x r = true) := fun w hw => by
       have hwn : ∀ k ∈ w, k < ps.length := fun k hk => by
        have : (ps[k]? : Option S48) ∈ w.map (fun k => ps[k]?) := List.mem_map_of_mem (f := fun k => ps[k]?) hk
        rw [hw] at this
        obtain ⟨p, _, hp⟩ := List.mem_map.1 this
        exact yE hp.symm
       rw [hL1 w hwn]
       have hm0 : macc M0 w 0 := by
        rw [hL0 w]
        clear hw
        induction w with
        | nil => rfl
        | cons k w ih =>
         unfold tacc
         have hk := hwn k (zH ..)
         show (true && match (List.replicate ps.length (0 : Int))[k]? with
          | none => false
          | some t => tacc [List.replicate ps.length 0] [true] w t) = true
         rw [zU, if_pos hk]
         exact ih (fun k hk => hwn k (zF _ hk))
       constructor
       ·rintro ⟨_, h⟩ r hr
        have := h r hr
        rw [sacc_run w x _ hw] at this
        exact (run_iff (okRule_ru (h3 r hr)) (h3 r hr).1 x).1 this
       ·intro h
        refine ⟨hm0, fun r hr => ?_⟩
        rw [sacc_run w x _ hw]
        exact (run_iff (okRule_ru (h3 r hr)) (h3 r hr).1 x).2 (h r hr)
      constructor
      ·rintro ⟨w, hw, h⟩
       exact ⟨⟨w, hw⟩, (lang w hw).1 h⟩
      ·rintro ⟨⟨w, hw⟩, h⟩
       exact ⟨w, hw, (lang w hw).2 h⟩
end Go.Abs.Pl
