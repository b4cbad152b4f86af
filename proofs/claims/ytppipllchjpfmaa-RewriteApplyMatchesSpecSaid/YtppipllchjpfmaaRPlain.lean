import Derived.Test.YtppipllchjpfmaaWLaw
import Derived.Test.YtppipllchjpfmaaAbsV
namespace Go.Abs
set_option linter.unusedVariables false
theorem cnd_eq {α : Type} (b : Bool) (x y : Option α) : cnd b x y = if b = true then x else y := by cases b <;> rfl
/-! ### loops that look for the first element that fails -/
def allP {α : Type} (P : Int → α → Bool) : Int → List α → Bool
  | _, [] => true
  | i, x :: r => P i x && allP P (i + 1) r
theorem scan_allP {α R : Type} (P : Int → α → Bool) (c : R) : ∀ (xs : List α) (i : Int), scan (fun i (_ : Unit) x => if P i x then some (.inr ()) else some (.inl c)) i () xs = if allP P i xs then some (.inr ()) else some (.inl c)
  | [], i => rfl
  | x :: r, i => by
    by_cases h : P i x = true
    · simp only [scan, h, if_true, allP, Bool.true_and]
      exact scan_allP P c r (i + 1)
    · simp [scan, allP, h]
theorem lt_of_get {α : Type} {l : List α} {i : Nat} {x : α} (h : l[i]? = some x) : i < l.length := by
  rcases Nat.lt_or_ge i l.length with h' | h'
  · exact h'
  · rw [List.getElem?_eq_none h'] at h; cases h
theorem idx_get {α : Type} (l : List α) (i : Nat) : idx l (i : Int) = l[i]? := by
  unfold idx
  rw [if_pos (by omega), Int.toNat_natCast]
/-! ### labels -/
def lab (x : Int) : Bool := !(decide (x < 1) || decide (x > 1114111))
def rightS (w : List Int) : Bool := w.all lab
theorem allP_all {α : Type} (p : α → Bool) : ∀ (l : List α) (i : Int), allP (fun _ x => p x) i l = l.all p
  | [], i => rfl
  | x :: r, i => by simp only [allP, List.all_cons, allP_all p r]
theorem f24_eq (m : Nat) (w : List Int) (hl : w.length ≤ 1000000) (hm : w.length < m) : f24 m w = some (rightS w) := by
  unfold f24
  have e : iter (fun (y : Int) => f24_B2 m w y) m 0 = landed (fun (_ : Unit) (i : Int) => i) w.length (scan (fun _ (_ : Unit) x => if lab x then some (.inr ()) else some (.inl false)) 0 () w) := by
    refine iter_scan w (fun (y : Int) => f24_B2 m w y) (fun (_ : Unit) (i : Int) => i) (fun _ (_ : Unit) x => if lab x then some (.inr ()) else some (.inl false)) (fun s k hi => ?_) m 0 () (by omega) (by omega)
    refine body_turn rfl fun x hx => ?_
    have hw : w64 ((k : Int) + 1) = (k : Int) + 1 := w64_id ⟨by omega, by omega⟩
    have hlab : (decide (x < 1) || decide (x > 1114111)) = !lab x := by unfold lab; rw [Bool.not_not]
    simp only [f24_r1, hw, hlab]
    by_cases h : lab x = true <;> simp [h]
  rw [e, scan_allP (fun _ x => lab x), allP_all]
  have hr : w.all lab = rightS w := rfl
  rw [hr]
  by_cases h : rightS w = true <;> simp [h, landed]
/-! ### rules -/
def ruleF (r : S28) : Int :=
  if r.fFrom.length < 1 ∨ r.fFrom.length > 3 ∨ r.fTo.length > 3 ∨ r.fLeft.length > 3 ∨ r.fRight.length > 3 then 9
  else if rightS r.fFrom && (rightS r.fTo && (rightS r.fLeft && rightS r.fRight)) then 0 else 3
theorem f23_eq (m : Nat) (r : S28) (hm : 3 < m) : f23 m r = some (ruleF r) := by
  unfold f23 f23_r7 f23_r6 f23_r5 f23_r4 ruleF
  by_cases h : r.fFrom.length < 1 ∨ r.fFrom.length > 3 ∨ r.fTo.length > 3 ∨ r.fLeft.length > 3 ∨ r.fRight.length > 3
  · have hb : (((((decide ((r.fFrom.length : Int) < 1)) || (decide ((r.fFrom.length : Int) > 3))) || (decide ((r.fTo.length : Int) > 3))) || (decide ((r.fLeft.length : Int) > 3))) || (decide ((r.fRight.length : Int) > 3))) = true := by
      simp only [Bool.or_eq_true, decide_eq_true_eq]
      omega
    rw [hb, if_pos h]
    rfl
  · have hb : (((((decide ((r.fFrom.length : Int) < 1)) || (decide ((r.fFrom.length : Int) > 3))) || (decide ((r.fTo.length : Int) > 3))) || (decide ((r.fLeft.length : Int) > 3))) || (decide ((r.fRight.length : Int) > 3))) = false := by
      simp only [Bool.or_eq_false_iff, decide_eq_false_iff_not]
      omega
    rw [hb, if_neg h]
    simp only [cnd_false]
    rw [f24_eq m r.fFrom (by omega) (by omega), f24_eq m r.fTo (by omega) (by omega)]
    simp only [bnd_some', f23_r3, f23_r2, f23_r1]
    rw [f24_eq m r.fLeft (by omega) (by omega), f24_eq m r.fRight (by omega) (by omega)]
    cases rightS r.fFrom <;> cases rightS r.fTo <;> cases rightS r.fLeft <;> cases rightS r.fRight <;> rfl
structure okR (r : S28) : Prop where
  f1 : 1 ≤ r.fFrom.length
  f3 : r.fFrom.length ≤ 3
  t3 : r.fTo.length ≤ 3
  l3 : r.fLeft.length ≤ 3
  r3 : r.fRight.length ≤ 3
  to : rightS r.fTo = true
theorem ruleF_ok {r : S28} (h : ruleF r = 0) : okR r := by
  unfold ruleF at h
  split at h
  · cases h
  · split at h
    · rename_i h1 h2
      simp only [Bool.and_eq_true] at h2
      exact ⟨by omega, by omega, by omega, by omega, by omega, h2.2.1⟩
    · cases h
/-- the first rule with a fault -/
def firstF : Int → List S28 → Option S25
  | _, [] => none
  | i, r :: l => if ruleF r = 0 then firstF (i + 1) l else some ⟨ruleF r, i⟩
theorem scan_firstF : ∀ (xs : List S28) (i : Int), scan (fun i (_ : Unit) r => if ruleF r = 0 then some (.inr ()) else some (.inl (⟨ruleF r, i⟩ : S25))) i () xs = match firstF i xs with
    | none => some (.inr ())
    | some f => some (.inl f)
  | [], i => rfl
  | x :: r, i => by
    by_cases h : ruleF x = 0
    · simp only [scan, h, if_true, firstF]
      exact scan_firstF r (i + 1)
    · simp [scan, firstF, h]
def rulesF (l : List S28) : S25 := if l.length > 40 then ⟨2, -1⟩ else match firstF 0 l with
  | none => ⟨0, 0⟩
  | some f => f
theorem f11_eq (m : Nat) (l : List S28) (hm : 40 < m) : f11 m l = some (rulesF l) := by
  unfold f11 rulesF
  by_cases hl : l.length > 40
  · have hb : decide ((l.length : Int) > 40) = true := decide_eq_true (by omega)
    rw [hb, if_pos hl]
    rfl
  · have hb : decide ((l.length : Int) > 40) = false := decide_eq_false (by omega)
    rw [hb, if_neg hl]
    have e : iter (fun (y : Int) => f11_B1 m l y) m 0 = landed (fun (_ : Unit) (i : Int) => i) l.length (scan (fun i (_ : Unit) r => if ruleF r = 0 then some (.inr ()) else some (.inl (⟨ruleF r, i⟩ : S25))) 0 () l) := by
      refine iter_scan l (fun (y : Int) => f11_B1 m l y) (fun (_ : Unit) (i : Int) => i) (fun i (_ : Unit) r => if ruleF r = 0 then some (.inr ()) else some (.inl (⟨ruleF r, i⟩ : S25))) (fun s k hi => ?_) m 0 () (by omega) (by omega)
      refine body_turn rfl fun r hr => ?_
      have hw : w64 ((k : Int) + 1) = (k : Int) + 1 := w64_id ⟨by omega, by omega⟩
      rw [f23_eq m r (by omega)]
      by_cases h : ruleF r = 0
      · simp [h, hw]
      · have hb : (ruleF r != 0) = true := by simpa using h
        simp [h, hb, f22]
    rw [cnd_false, e, scan_firstF]
    cases firstF 0 l <;> rfl
theorem firstF_ok : ∀ (l : List S28) (i : Int), firstF i l = none → ∀ r ∈ l, okR r
  | [], i, h, r, hr => by cases hr
  | x :: l, i, h, r, hr => by
    unfold firstF at h
    split at h
    · rename_i hx
      rcases List.mem_cons.1 hr with rfl | hr
      · exact ruleF_ok hx
      · exact firstF_ok l (i + 1) h r hr
    · cases h
theorem firstF_code : ∀ (l : List S28) (i : Int) (f : S25), firstF i l = some f → f.fCode ≠ 0
  | x :: l, i, f, h => by
    unfold firstF at h
    split at h
    · exact firstF_code l (i + 1) f h
    · rename_i hx
      cases h
      exact hx
theorem firstF_append : ∀ (a b : List S28) (i : Int), firstF i a = none → firstF i (a ++ b) = firstF (i + a.length) b
  | [], b, i, h => by simp
  | x :: a, b, i, h => by
    unfold firstF at h
    split at h
    · rename_i hx
      simp only [List.cons_append, firstF, hx, if_true, firstF_append a b (i + 1) h, List.length_cons]
      congr 1
      omega
    · cases h
theorem firstF_none : ∀ (b : List S28) (i j : Int), firstF i b = none → firstF j b = none
  | [], i, j, h => rfl
  | x :: b, i, j, h => by
    unfold firstF at h ⊢
    split at h
    · rename_i hx
      rw [if_pos hx]
      exact firstF_none b _ _ h
    · cases h
/-! ### equal lists -/
def eqFrom (b : List Int) : Int → Int → Bool := fun i x => b[i.toNat]? == some x
theorem allP_eq : ∀ (a b : List Int) (i : Nat), a.length + i = b.length → allP (eqFrom b) (i : Int) a = decide (a = b.drop i)
  | [], b, i, h => by
    simp only [List.length_nil, Nat.zero_add] at h
    have hd : b.drop i = [] := List.drop_eq_nil_of_le (by omega)
    rw [hd]
    rfl
  | x :: a, b, i, h => by
    simp only [List.length_cons] at h
    have hlt : i < b.length := by omega
    rw [List.drop_eq_getElem_cons hlt]
    have ih := allP_eq a b (i + 1) (by omega)
    have hc : ((i : Int) + 1) = ((i + 1 : Nat) : Int) := by omega
    simp only [allP, hc, ih, eqFrom, Int.toNat_natCast, List.getElem?_eq_getElem hlt]
    generalize b.drop (i + 1) = t
    generalize b[i] = y
    by_cases hx : y = x
    · subst hx
      by_cases hy : a = t <;> simp [hy]
    · have hx' : ¬ x = y := fun h => hx h.symm
      simp [hx, hx']
theorem f39_eq (m : Nat) (a b : List Int) (hl : a.length ≤ 1000000) (hm : a.length < m) : f39 m a b = some (decide (a = b)) := by
  unfold f39
  by_cases he : a.length = b.length
  · have hb : (((a.length : Int)) != ((b.length : Int))) = false := by simp [he]
    rw [hb, cnd_false]
    have e : iter (fun (y : Int) => f39_B1 m a b y) m 0 = landed (fun (_ : Unit) (i : Int) => i) a.length (scan (fun i (_ : Unit) x => if eqFrom b i x then some (.inr ()) else some (.inl false)) 0 () a) := by
      refine iter_scan a (fun (y : Int) => f39_B1 m a b y) (fun (_ : Unit) (i : Int) => i) (fun i (_ : Unit) x => if eqFrom b i x then some (.inr ()) else some (.inl false)) (fun s k hi => ?_) m 0 () (by omega) (by omega)
      refine body_turn rfl fun x hx => ?_
      have hlt := lt_of_get hx
      have hw : w64 ((k : Int) + 1) = (k : Int) + 1 := w64_id ⟨by omega, by omega⟩
      rw [idx_get, List.getElem?_eq_getElem (by omega : k < b.length)]
      simp only [bnd_some', hw, eqFrom, Int.toNat_natCast, List.getElem?_eq_getElem (by omega : k < b.length)]
      by_cases h : x = b[k]
      · simp [h]
      · have h' : ¬ b[k] = x := fun e => h e.symm
        have hb : (x != b[k]) = true := by simpa using h
        simp [hb, h']
    have e2 := allP_eq a b 0 (by omega)
    rw [e, scan_allP]
    have e2 : allP (eqFrom b) 0 a = decide (a = b) := e2
    rw [e2]
    by_cases h : a = b
    · subst h; simp [landed]
    · simp [h, landed]
  · have hb : (((a.length : Int)) != ((b.length : Int))) = true := by simp; omega
    have hne : decide (a = b) = false := decide_eq_false fun h => he (by rw [h])
    rw [hb, hne]
    rfl
theorem f14_eq (m : Nat) (a b : List Int) (hl : a.length ≤ 1000000) (hm : a.length < m) : f14 m a b = some (decide (a = b)) := f39_eq m a b hl hm
/-! ### applying a rule -/
def matchS (r : S28) (w : List Int) (i : Nat) : Bool :=
  decide (r.fLeft.length ≤ i ∧ i + r.fFrom.length + r.fRight.length ≤ w.length) &&
  (decide ((w.drop (i - r.fLeft.length)).take r.fLeft.length = r.fLeft) && (decide ((w.drop i).take r.fFrom.length = r.fFrom) && decide ((w.drop (i + r.fFrom.length)).take r.fRight.length = r.fRight)))
def goS (r : S28) (w : List Int) : Nat → Nat → List Int → List Int
  | 0, _, out => out
  | n + 1, i, out => match w[i]? with
    | none => out
    | some x => if matchS r w i then goS r w n (i + r.fFrom.length) (out ++ r.fTo) else goS r w n (i + 1) (out ++ [x])
def applyS (r : S28) (w : List Int) : List Int := goS r w w.length 0 []
theorem sub_nat {α : Type} (l : List α) (a b : Nat) (h : a ≤ b) (h2 : b ≤ l.length) : sub l (a : Int) (b : Int) = some ((l.drop a).take (b - a)) := by
  unfold sub
  rw [if_pos ⟨by omega, by omega, by omega⟩, Int.toNat_natCast, Int.toNat_natCast]
theorem app_some {α : Type} (b : Nat) (xs ys : List α) (h : (xs.length + ys.length) * b ≤ 140737488355328) (h2 : xs.length + ys.length ≤ 1000000000) : app b xs ys = some (xs ++ ys) := by
  unfold app
  rw [if_pos ⟨h, by unfold maxLen; omega⟩]
theorem f26_cond (m : Nat) (r : S28) (w out : List Int) (i : Nat) (hr : okR r) (hw : w.length ≤ 1000) (hi : i < w.length) (hm : 1000 < m) :
    f26_B6 m r w out (i : Int) = f26_r2 m r w out (i : Int) (matchS r w i) := by
  obtain ⟨f1, f3, t3, l3, r3, _⟩ := hr
  have w1 : w64 ((i : Int) + (r.fFrom.length : Int)) = ((i + r.fFrom.length : Nat) : Int) := by rw [w64_id ⟨by omega, by omega⟩]; omega
  have w2 : w64 (((i + r.fFrom.length : Nat) : Int) + (r.fRight.length : Int)) = ((i + r.fFrom.length + r.fRight.length : Nat) : Int) := by rw [w64_id ⟨by omega, by omega⟩]; omega
  have hd : decide ((i : Int) < (w.length : Int)) = true := decide_eq_true (by omega)
  have hb : ((decide ((i : Int) ≥ (r.fLeft.length : Int))) && (decide (((i + r.fFrom.length + r.fRight.length : Nat) : Int) ≤ (w.length : Int)))) = decide (r.fLeft.length ≤ i ∧ i + r.fFrom.length + r.fRight.length ≤ w.length) := by
    rw [← Bool.decide_and]
    exact decide_eq_decide.2 ⟨fun h => ⟨by omega, by omega⟩, fun h => ⟨by omega, by omega⟩⟩
  unfold f26_B6
  rw [hd, w1, w2, hb]
  unfold matchS
  by_cases hc : r.fLeft.length ≤ i ∧ i + r.fFrom.length + r.fRight.length ≤ w.length
  · rw [decide_eq_true hc]
    have w3 : w64 ((i : Int) - (r.fLeft.length : Int)) = ((i - r.fLeft.length : Nat) : Int) := by rw [w64_id ⟨by omega, by omega⟩]; omega
    simp only [cnd_true, f26_r5, w3, Bool.true_and]
    rw [sub_nat w _ _ (by omega) (by omega)]
    have n1 : i - (i - r.fLeft.length) = r.fLeft.length := by omega
    rw [n1, bnd_some', f39_eq m _ _ (by simp; omega) (by simp; omega)]
    simp only [bnd_some', f26_r4, w1]
    by_cases c1 : (w.drop (i - r.fLeft.length)).take r.fLeft.length = r.fLeft
    · rw [decide_eq_true c1, cnd_true, sub_nat w _ _ (by omega) (by omega)]
      have n2 : i + r.fFrom.length - i = r.fFrom.length := by omega
      rw [n2, bnd_some', f39_eq m _ _ (by simp; omega) (by simp; omega)]
      simp only [bnd_some', f26_r3, w1, w2, Bool.true_and]
      by_cases c2 : (w.drop i).take r.fFrom.length = r.fFrom
      · rw [decide_eq_true c2, cnd_true, sub_nat w _ _ (by omega) (by omega)]
        have n3 : i + r.fFrom.length + r.fRight.length - (i + r.fFrom.length) = r.fRight.length := by omega
        rw [n3, bnd_some', f39_eq m _ _ (by simp; omega) (by simp; omega)]
        simp only [bnd_some', Bool.true_and]
      · rw [decide_eq_false c2]
        simp only [cnd_false, bnd_some', Bool.false_and]
    · rw [decide_eq_false c1]
      simp only [cnd_false, bnd_some', f26_r3, Bool.false_and]
  · rw [decide_eq_false hc]
    simp only [cnd_true, f26_r5, cnd_false, bnd_some', f26_r4, f26_r3, Bool.false_and]
theorem f26_loop (m : Nat) (r : S28) (w : List Int) (hr : okR r) (hw : w.length ≤ 1000) (hm : 1000 < m) : ∀ (n k i : Nat) (out : List Int), w.length ≤ n + i → n < k → out.length ≤ 3 * i → i ≤ w.length + 3 →
    ∃ j, iter (fun (y : (List Int) × Int) => f26_B6 m r w y.1 y.2) k (out, (i : Int)) = some (.inr (goS r w n i out, j))
  | n, 0, i, out, h1, h2, h3, h4 => by omega
  | n, k + 1, i, out, h1, h2, h3, h4 => by
    obtain ⟨f1, f3, t3, l3, r3, to⟩ := hr
    unfold iter
    by_cases hi : i < w.length
    · have e := f26_cond m r w out i ⟨f1, f3, t3, l3, r3, to⟩ hw hi hm
      simp only [e]
      have hg : w[i]? = some w[i] := List.getElem?_eq_getElem hi
      cases n with
      | zero => omega
      | succ n =>
        simp only [goS, hg, f26_r2]
        by_cases hmt : matchS r w i = true
        · rw [hmt]
          have w1 : w64 ((i : Int) + (r.fFrom.length : Int)) = ((i + r.fFrom.length : Nat) : Int) := by rw [w64_id ⟨by omega, by omega⟩]; omega
          rw [cnd_true, app_some 8 out r.fTo (by omega) (by omega)]
          simp only [bnd_some', f26_j1, w1, if_true]
          exact f26_loop m r w ⟨f1, f3, t3, l3, r3, to⟩ hw hm n k (i + r.fFrom.length) (out ++ r.fTo) (by omega) (by omega) (by simp; omega) (by omega)
        · have hmt : matchS r w i = false := by simpa using hmt
          rw [hmt]
          have w1 : w64 ((i : Int) + 1) = ((i + 1 : Nat) : Int) := by rw [w64_id ⟨by omega, by omega⟩]; omega
          rw [cnd_false, idx_get, hg]
          simp only [bnd_some']
          rw [app_some 8 out [w[i]] (by simp; omega) (by simp; omega)]
          simp only [bnd_some', f26_j1, w1, Bool.false_eq_true, if_false]
          exact f26_loop m r w ⟨f1, f3, t3, l3, r3, to⟩ hw hm n k (i + 1) (out ++ [w[i]]) (by omega) (by omega) (by simp; omega) (by omega)
    · have hd : decide ((i : Int) < (w.length : Int)) = false := decide_eq_false (by omega)
      have hg : w[i]? = none := List.getElem?_eq_none (by omega)
      have hgo : goS r w n i out = out := by
        cases n with
        | zero => rfl
        | succ n => simp only [goS, hg]
      simp only [f26_B6, hd, cnd_false, hgo]
      exact ⟨i, rfl⟩
theorem f26_eq (m : Nat) (r : S28) (w : List Int) (hr : okR r) (hw : w.length ≤ 1000) (hm : 1000 < m) : f26 m r w = some (applyS r w) := by
  obtain ⟨j, hj⟩ := f26_loop m r w hr hw hm w.length m 0 [] (by omega) (by omega) (by simp) (by omega)
  unfold f26
  have hj : iter (fun (y : (List Int) × Int) => f26_B6 m r w y.1 y.2) m ([], 0) = some (.inr (goS r w w.length 0 [], j)) := hj
  rw [hj]
  rfl
theorem goS_right (r : S28) (w : List Int) (hr : rightS r.fTo = true) (hw : rightS w = true) : ∀ (n i : Nat) (out : List Int), rightS out = true → rightS (goS r w n i out) = true
  | 0, i, out, h => h
  | n + 1, i, out, h => by
    unfold goS
    split
    · exact h
    · rename_i x hx
      split
      · exact goS_right r w hr hw n _ _ (by unfold rightS at *; rw [List.all_append, h, hr]; rfl)
      · refine goS_right r w hr hw n _ _ ?_
        unfold rightS at *
        rw [List.all_append, h]
        have := List.all_eq_true.1 hw x (List.mem_of_getElem? hx)
        simp [this]
theorem applyS_right (r : S28) (w : List Int) (hr : okR r) (hw : rightS w = true) : rightS (applyS r w) = true := goS_right r w hr.to hw _ _ _ rfl
/-! ### all rules -/
def applyAll : List S28 → Int → List Int → List Int × S25
  | [], _, w => (w, ⟨0, 0⟩)
  | r :: l, i, w => if (applyS r w).length > 300 then ([], ⟨17, i⟩) else applyAll l (i + 1) (applyS r w)
def gAll : Int → List Int → S28 → Option ((List Int × S25) ⊕ List Int) := fun i w r => if (applyS r w).length > 300 then some (.inl ([], ⟨17, i⟩)) else some (.inr (applyS r w))
theorem scan_all : ∀ (l : List S28) (i : Int) (w : List Int), brk (scan gAll i w l) some (fun v => some (v, (⟨0, 0⟩ : S25))) = some (applyAll l i w)
  | [], i, w => rfl
  | r :: l, i, w => by
    unfold applyAll
    by_cases h : (applyS r w).length > 300
    · simp [scan, gAll, h]
    · simp only [scan, gAll, h, if_false]
      exact scan_all l (i + 1) (applyS r w)
/-- a loop over a list, with something that stays true -/
theorem iter_scan_inv {α R S A : Type} (xs : List α) (B : A → Option (Stp R A)) (mk : S → Int → A) (g : Int → S → α → Option (R ⊕ S)) (I : S → Prop) (hB : ∀ (s : S) (i : Nat), I s → i ≤ xs.length → B (mk s i) = turn xs mk g s i)
    (hI : ∀ (s s' : S) (i : Int) (x : α), I s → g i s x = some (.inr s') → I s') :
    ∀ (m i : Nat) (s : S), I s → i ≤ xs.length → xs.length < m + i → iter B m (mk s i) = landed mk xs.length (scan g i s (xs.drop i))
  | 0, i, s, hs, h1, h2 => by omega
  | m + 1, i, s, hs, h1, h2 => by
    unfold iter
    rw [hB s i hs h1]
    unfold turn
    rcases Nat.lt_or_ge i xs.length with hlt | hge
    · rw [List.getElem?_eq_getElem hlt, List.drop_eq_getElem_cons hlt]
      simp only [scan]
      cases hg : g i s xs[i] with
      | none => rfl
      | some o =>
        cases o with
        | inl r => rfl
        | inr s' => exact iter_scan_inv xs B mk g I hB hI m (i + 1) s' (hI s s' i _ hs hg) hlt (by omega)
    · have : i = xs.length := by omega
      subst this
      simp [scan, landed]
theorem f12_loop (m : Nat) (l : List S28) (w : List Int) (hr : ∀ r ∈ l, okR r) (hw : w.length ≤ 300) (hl : l.length ≤ 1000) (hm : 1000 < m) :
    iter (fun (y : (List Int) × Int) => f12_B1 m l y.1 y.2) m (w, 0) = landed (fun (s : List Int) (i : Int) => (s, i)) l.length (scan gAll 0 w l) := by
  refine iter_scan_inv l (fun (y : (List Int) × Int) => f12_B1 m l y.1 y.2) (fun (s : List Int) (i : Int) => (s, i)) gAll (fun s => s.length ≤ 300) (fun s k hs hi => ?_) (fun s s' i x hs hg => ?_) m 0 w hw (by omega) (by omega)
  · refine body_turn rfl fun r hrx => ?_
    have hw : w64 ((k : Int) + 1) = (k : Int) + 1 := w64_id ⟨by omega, by omega⟩
    have hs : s.length ≤ 300 := hs
    rw [f26_eq m r s (hr r (List.mem_of_getElem? hrx)) (by omega) hm]
    simp only [bnd_some', f22, hw, gAll]
    by_cases h : (applyS r s).length > 300
    · have hb : decide (((applyS r s).length : Int) > 300) = true := decide_eq_true (by omega)
      rw [hb]; simp [h]
    · have hb : decide (((applyS r s).length : Int) > 300) = false := decide_eq_false (by omega)
      rw [hb]; simp [h]
  · unfold gAll at hg
    split at hg
    · cases hg
    · cases hg
      show (applyS x s).length ≤ 300
      omega
/-- what Apply answers -/
def applyF (l : List S28) (w : List Int) : List Int × S25 :=
  if (rulesF l).fCode ≠ 0 ∨ (rulesF l).fIndex ≠ 0 then ([], rulesF l) else if w.length > 30 then ([], ⟨2, -2⟩) else if rightS w = true then applyAll l 0 w else ([], ⟨3, -2⟩)
theorem zero25 (v : S25) : (!((v.fCode == 0) && ((v.fIndex == 0) && true))) = decide (v.fCode ≠ 0 ∨ v.fIndex ≠ 0) := by
  by_cases h1 : v.fCode = 0 <;> by_cases h2 : v.fIndex = 0 <;> simp [h1, h2]
theorem rulesF_zero {l : List S28} (h : ¬ ((rulesF l).fCode ≠ 0 ∨ (rulesF l).fIndex ≠ 0)) : l.length ≤ 40 ∧ firstF 0 l = none := by
  unfold rulesF at h
  split at h
  · exact (h (.inl (by decide))).elim
  · split at h
    · rename_i h1 _ h2
      exact ⟨by omega, h2⟩
    · rename_i f hf
      exact (h (.inl (firstF_code _ _ _ hf))).elim
theorem f12_eq (m : Nat) (l : List S28) (w : List Int) (hm : 1000 < m) : f12 m l w = some (applyF l w) := by
  unfold f12 applyF
  rw [f11_eq m l (by omega)]
  simp only [bnd_some', zero25]
  by_cases h : (rulesF l).fCode ≠ 0 ∨ (rulesF l).fIndex ≠ 0
  · rw [decide_eq_true h, if_pos h]; rfl
  · rw [decide_eq_false h, if_neg h, cnd_false]
    obtain ⟨h40, h0⟩ := rulesF_zero h
    by_cases hl : w.length > 30
    · rw [if_pos hl, decide_eq_true (by omega : (w.length : Int) > 30)]; rfl
    · rw [if_neg hl, decide_eq_false (by omega : ¬ (w.length : Int) > 30), cnd_false, f24_eq m w (by omega) (by omega)]
      simp only [bnd_some']
      by_cases hr : rightS w = true
      · rw [if_pos hr, hr, Bool.not_true, cnd_false]
        have e : f25 m w = some w := app_some 8 [] w (by simp; omega) (by simp; omega)
        rw [e]
        simp only [bnd_some']
        rw [f12_loop m l w (firstF_ok l 0 h0) (by omega) (by omega) hm, ← scan_all]
        cases scan gAll 0 w l with
        | none => rfl
        | some o => cases o <;> rfl
      · rw [if_neg hr]
        have hr : rightS w = false := by simpa using hr
        rw [hr]; rfl
theorem applyAll_shift : ∀ (l : List S28) (i j : Int) (w : List Int), (applyAll l i w).1 = (applyAll l j w).1 ∧ (applyAll l i w).2.fCode = (applyAll l j w).2.fCode
  | [], i, j, w => ⟨rfl, rfl⟩
  | r :: l, i, j, w => by
    unfold applyAll
    split
    · exact ⟨rfl, rfl⟩
    · exact applyAll_shift l _ _ _
/-- all went well, or a limit was met -/
theorem applyAll_code : ∀ (l : List S28) (i : Int) (w : List Int), (applyAll l i w).2 = ⟨0, 0⟩ ∨ (applyAll l i w).2.fCode ≠ 0
  | [], i, w => .inl rfl
  | r :: l, i, w => by
    unfold applyAll
    split
    · exact .inr (fun h => by cases h)
    · exact applyAll_code l _ _
theorem applyAll_append : ∀ (a b : List S28) (i : Int) (w : List Int), (applyAll a i w).2.fCode = 0 → applyAll (a ++ b) i w = applyAll b (i + a.length) (applyAll a i w).1
  | [], b, i, w, h => by simp [applyAll]
  | r :: a, b, i, w, h => by
    unfold applyAll at h
    split at h
    · cases h
    · rename_i hn
      simp only [List.cons_append, applyAll, if_neg hn]
      rw [applyAll_append a b (i + 1) _ h]
      have : i + 1 + (a.length : Int) = i + ((r :: a).length : Int) := by simp only [List.length_cons]; omega
      rw [this]
theorem applyAll_right : ∀ (l : List S28) (i : Int) (w : List Int), (∀ r ∈ l, okR r) → rightS w = true → rightS (applyAll l i w).1 = true
  | [], i, w, hr, hw => hw
  | r :: l, i, w, hr, hw => by
    unfold applyAll
    split
    · rfl
    · exact applyAll_right l _ _ (fun x hx => hr x (List.mem_cons_of_mem _ hx)) (applyS_right r w (hr r List.mem_cons_self) hw)
theorem applyF_code (l : List S28) (w : List Int) : (applyF l w).2 = ⟨0, 0⟩ ∨ (applyF l w).2.fCode ≠ 0 := by
  unfold applyF
  split
  · rename_i h
    unfold rulesF at h ⊢
    split
    · exact .inr (by decide)
    · split
      · rename_i h1 _ h2
        simp [h1, h2] at h
      · rename_i f hf
        exact .inr (firstF_code _ _ _ hf)
  · split
    · exact .inr (by decide)
    · split
      · exact applyAll_code _ _ _
      · exact .inr (by decide)
/-- when all went well -/
theorem applyF_ok {l : List S28} {w : List Int} (h : (applyF l w).2.fCode = 0) : l.length ≤ 40 ∧ firstF 0 l = none ∧ w.length ≤ 30 ∧ rightS w = true ∧ applyF l w = applyAll l 0 w := by
  unfold applyF at h ⊢
  split at h
  · rename_i hf
    exfalso
    unfold rulesF at h hf
    split at h
    · cases h
    · split at h
      · rename_i h1 _ h2
        simp [h1, h2] at hf
      · rename_i f hff
        exact firstF_code _ _ _ hff h
  · rename_i hf
    obtain ⟨h40, h0⟩ := rulesF_zero hf
    split at h
    · cases h
    · rename_i hl
      split at h
      · rename_i hr
        refine ⟨h40, h0, by omega, hr, ?_⟩
        rw [if_neg hf, if_neg hl, if_pos hr]
      · cases h
theorem applyF_of {l : List S28} {w : List Int} (h1 : l.length ≤ 40) (h2 : firstF 0 l = none) (h3 : w.length ≤ 30) (h4 : rightS w = true) : applyF l w = applyAll l 0 w := by
  have hz : rulesF l = ⟨0, 0⟩ := by
    unfold rulesF
    rw [if_neg (by omega), h2]
  unfold applyF
  rw [hz, if_neg (by simp), if_neg (by omega), if_pos h4]
theorem b25 (v : S25) : ((v.fCode == 0) && ((v.fIndex == 0) && true)) = decide (v.fCode = 0 ∧ v.fIndex = 0) := by
  by_cases h1 : v.fCode = 0 <;> by_cases h2 : v.fIndex = 0 <;> simp [h1, h2]
theorem applyF_len (l : List S28) (w : List Int) (h : (applyF l w).2.fCode = 0) : (applyF l w).1.length ≤ 300 := by
  obtain ⟨_, _, h3, _, h5⟩ := applyF_ok h
  rw [h5]
  have : ∀ (l : List S28) (i : Int) (w : List Int), w.length ≤ 300 → (applyAll l i w).1.length ≤ 300 := by
    intro l
    induction l with
    | nil => intro i w h; exact h
    | cons r l ih =>
      intro i w h
      unfold applyAll
      split
      · simp
      · exact ih _ _ (by omega)
  exact this l 0 w (by omega)
theorem f10_big : f10 1001 = some true := by kernel_rfl
end Go.Abs
