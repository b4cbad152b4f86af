import Derived.Test.YthiikobbfpfbkaaDoorQX
import Derived.Test.YthiikobbfpfbkaaDoorPX
namespace Go.Abs
open Go.Sort Go.Proofs
set_option linter.unusedVariables false
set_option maxRecDepth 100000
theorem Cut.ne {l : List Nat} {i x : Nat} {r : List Nat} (h : Cut l i (x :: r)) : ((i : Int) == ((castL l).length : Int)) = false := by
 rw [castL_len]
 have := h.lt
 simp; omega
theorem Cut.eq {l : List Nat} {i : Nat} (h : Cut l i []) : ((i : Int) == ((castL l).length : Int)) = true := by
 rw [castL_len]
 have := h.nil
 simp; omega
theorem Cut.ltI {l : List Nat} {i x : Nat} {r : List Nat} (h : Cut l i (x :: r)) : decide ((i : Int) < ((castL l).length : Int)) = true := by
 rw [castL_len]
 have := h.lt
 simp; omega
theorem Cut.geI {l : List Nat} {i : Nat} (h : Cut l i []) : decide ((i : Int) < ((castL l).length : Int)) = false := by
 rw [castL_len]
 have := h.nil
 simp; omega
theorem plain30 (m : Nat) (l : List Nat) (acc : List S81) (s : AS) (hs : mainM s.md = true) (c k : Nat) (ha : acc.length ≤ 10000) (hk : k ≤ 10000) :
  f30_j30 m (castL l) acc (s.pile : Int) (encM s.md) s.need s.was (k : Int) (c : Int) true = some (.nxt (st30 (acc ++ [pl c]) s.after (k + 1))) := by
 have hw : w64 ((k : Int) + 1) = ((k + 1 : Nat) : Int) := by rw [w64_id ⟨by omega, by omega⟩]; omega
 unfold f30_j30
 rw [cnd_true, app_some 16 acc _ (by simp; omega) (by simp; omega), bnd_some']
 obtain ⟨md, pile, need, was⟩ := s
 cases md with
 | out =>
  show cnd (decide ((0 : Int) > 0)) _ _ = _
  rw [decide_eq_false (by omega), cnd_false]
  unfold f30_j4 f30_j1
  rw [hw]
  rfl
 | set e =>
  show cnd (decide (encM (.set e) > 0)) _ _ = _
  rw [decide_eq_true (by cases e <;> decide), cnd_true]
  unfold f30_j4 f30_j1
  rw [hw]
  rfl
 | esc b => cases hs
 | br k => cases hs
theorem after_main (s : AS) : mainM s.after.md = true := by
 unfold AS.after
 split <;> rfl
theorem after_pile (s : AS) : s.after.pile = s.pile := by
 unfold AS.after
 split <;> rfl
theorem copy30 (m : Nat) (l : List Nat) (hl : l.length ≤ 4000) : ∀ (e : List Nat) (r : List Nat) (M i : Nat) (acc : List S81), Cut l i (e ++ r) → e.length < M → acc.length ≤ i →
  iter (fun (y : (List S81) × Int) => f30_B12 m (castL l) ((i + e.length : Nat) : Int) y.1 y.2) M (acc, (i : Int)) = some (.inr (acc ++ e.map sg, ((i + e.length : Nat) : Int)))
 | [], r, 0, _, _, _, h, _ => by cases h
 | [], r, M + 1, i, acc, h, _, ha => by
  unfold iter
  dsimp only
  unfold f30_B12
  rw [decide_eq_false (by simp), cnd_false]
  simp
 | x :: e, r, 0, _, _, _, h, _ => by cases h
 | x :: e, r, M + 1, i, acc, h, hM, ha => by
  have h : Cut l i (x :: (e ++ r)) := h
  have hil := h.lt
  have ih := copy30 m l hl e r M (i + 1) (acc ++ [sg x]) h.next (by simpa using hM) (by simp; omega)
  have e1 : i + (x :: e).length = i + 1 + e.length := by rw [List.length_cons]; omega
  have hB : f30_B12 m (castL l) ((i + (x :: e).length : Nat) : Int) acc (i : Int) = some (.nxt (acc ++ [sg x], ((i + 1 : Nat) : Int))) := by
   unfold f30_B12
   rw [decide_eq_true (by rw [List.length_cons]; omega), cnd_true, h.idx, bnd_some', app_some 16 acc _ (by simp; omega) (by simp; omega), bnd_some', h.w]
   rfl
  conv => lhs; unfold iter
  dsimp only
  rw [hB, e1]
  refine ih.trans ?_
  simp
theorem brace30 (m : Nat) (hm : 100000 ≤ m) (l : List Nat) (acc : List S81) (D : Nat) (hD : D ≤ 80) (was : Bool) {i : Nat} {r : List Nat} (h : Cut l i (123 :: r)) (ha : acc.length ≤ i) (s : AS) (hs : itA s (123 :: r) = preA [sg 123] (itA (bA 1 D) r)) :
  Turn l acc s i (123 :: r) (f30_r20 m (castL l) acc (D : Int) 0 false (i : Int) true) := by
 have k1 := h.next
 have hl4 := h.2.2
 have hil := h.lt
 unfold f30_r20
 rw [cnd_true, h.w]
 by_cases c1 : ∃ c r1, r = c :: r1 ∧ 48 ≤ c ∧ c ≤ 57
 case neg =>
  have e1 : (bnd (cnd (((i + 1 : Nat) : Int) == ((castL l).length : Int)) (some true) (bnd (idx (castL l) ((i + 1 : Nat) : Int)) fun v792 => some (decide (v792 < 48)))) fun v715 => f30_r19 m (castL l) acc (D : Int) 0 false (i : Int) v715) = some (.ret ([], ((i + 1 : Nat) : Int))) := by
   cases r with
   | nil =>
    rw [k1.eq, cnd_true, bnd_some']
    unfold f30_r19
    rw [cnd_true, bnd_some']
    unfold f30_r18
    rw [cnd_true, h.w]
   | cons c r1 =>
    have hc : ¬ (48 ≤ c ∧ c ≤ 57) := fun g => c1 ⟨c, r1, rfl, g⟩
    rw [k1.ne, cnd_false, k1.idx, bnd_some', bnd_some']
    unfold f30_r19
    by_cases h48 : c < 48
    ·rw [decide_eq_true (by omega : (c : Int) < 48), cnd_true, bnd_some']
     unfold f30_r18
     rw [cnd_true, h.w]
    ·rw [decide_eq_false (by omega : ¬ (c : Int) < 48), cnd_false, h.w, k1.idx, bnd_some', decide_eq_true (by omega : (c : Int) > 57), bnd_some']
     unfold f30_r18
     rw [cnd_true, h.w]
  rw [e1]
  refine .bad r (i + 1) k1.len ?_
  rw [hs, bA_no fun c r1 e => by
   have : ¬ (48 ≤ c ∧ c ≤ 57) := fun g => c1 ⟨c, r1, e, g⟩
   simp [stepA, this]]
  rfl
 obtain ⟨a, r1, rfl, ha1⟩ := c1
 have s1 : stepA (bA 1 D) a = some (bA 2 D, [sg a]) := by simp [stepA, ha1]
 have k2 := k1.next
 have e1 : (bnd (cnd (((i + 1 : Nat) : Int) == ((castL l).length : Int)) (some true) (bnd (idx (castL l) ((i + 1 : Nat) : Int)) fun v792 => some (decide (v792 < 48)))) fun v715 => f30_r19 m (castL l) acc (D : Int) 0 false (i : Int) v715) =
   (bnd (cnd (((i + 1 + 1 : Nat) : Int) == ((castL l).length : Int)) (some true) (bnd (idx (castL l) ((i + 1 + 1 : Nat) : Int)) fun v790 => some (v790 != 44))) fun v735 => f30_r17 m (castL l) acc (D : Int) 0 false (i : Int) v735) := by
  rw [k1.ne, cnd_false, k1.idx, bnd_some', decide_eq_false (by omega : ¬ (a : Int) < 48), bnd_some']
  unfold f30_r19
  rw [cnd_false, h.w, k1.idx, bnd_some', decide_eq_false (by omega : ¬ (a : Int) > 57), bnd_some']
  unfold f30_r18
  rw [cnd_false, h.w, k1.w]
 rw [e1]
 by_cases c2 : ∃ r2, r1 = 44 :: r2
 case neg =>
  have e2 : (bnd (cnd (((i + 1 + 1 : Nat) : Int) == ((castL l).length : Int)) (some true) (bnd (idx (castL l) ((i + 1 + 1 : Nat) : Int)) fun v790 => some (v790 != 44))) fun v735 => f30_r17 m (castL l) acc (D : Int) 0 false (i : Int) v735) = some (.ret ([], ((i + 1 + 1 : Nat) : Int))) := by
   have fin : f30_r17 m (castL l) acc (D : Int) 0 false (i : Int) true = some (.ret ([], ((i + 1 + 1 : Nat) : Int))) := by
    unfold f30_r17
    rw [cnd_true, h.w, k1.w]
   cases r1 with
   | nil => rw [k2.eq, cnd_true, bnd_some', fin]
   | cons c r2 =>
    have hc : c ≠ 44 := fun g => c2 ⟨r2, by rw [g]⟩
    rw [k2.ne, cnd_false, k2.idx, bnd_some', show ((c : Int) != 44) = true from (neN c 44).trans (decide_eq_true hc), bnd_some', fin]
  rw [e2]
  refine .bad r1 (i + 1 + 1) k2.len ?_
  rw [hs, itA_some s1, bA_no fun c r2 e => by
   have : c ≠ 44 := fun g => c2 ⟨r2, by rw [e, g]⟩
   simp [stepA, this]]
  rfl
 obtain ⟨r2, rfl⟩ := c2
 have s2 : stepA (bA 2 D) 44 = some (bA 3 D, [sg 44]) := by simp [stepA]
 have k3 := k2.next
 rw [k2.ne, cnd_false, k2.idx, bnd_some', show (((44 : Nat) : Int) != 44) = false from rfl, bnd_some']
 unfold f30_r17
 rw [cnd_false, h.w, k1.w, k2.w]
 -- the end
 have fin : ∀ (k : Nat) (t' : List Nat) (e : List Nat), Cut l k t' → k = i + e.length → 123 :: a :: 44 :: r2 = e ++ t' →
   (f30_j14 m (castL l) acc (D : Int) 0 false (i : Int) (k : Int) = some (.ret ([], (k : Int))) ∧ ¬ (∃ r', t' = 125 :: r')) ∨ (∃ r', t' = 125 :: r' ∧ f30_j14 m (castL l) acc (D : Int) 0 false (i : Int) (k : Int) = some (.nxt (st30 (acc ++ (e.map sg ++ [sg 125])) (oA D false false) (k + 1)))) := by
  intro k t' e hk hke het
  by_cases c3 : ∃ r', t' = 125 :: r'
  ·obtain ⟨r', rfl⟩ := c3
   refine .inr ⟨r', rfl, ?_⟩
   have hcopy := copy30 m l hl4 e (125 :: r') m i acc (by rw [← het]; exact h) (by
    have g1 := h.len
    have g2 : (123 :: a :: 44 :: r2).length = e.length + (125 :: r').length := by rw [het, List.length_append]
    omega) ha
   rw [← hke] at hcopy
   unfold f30_j14
   rw [hk.ne, cnd_false, hk.idx, bnd_some', show (((125 : Nat) : Int) != 125) = false from rfl, bnd_some']
   unfold f30_r13
   rw [cnd_false, hcopy, brk_inr]
   have hkl := hk.lt
   show f30_j2 m (acc ++ e.map sg) (D : Int) 0 false false (k : Int) ((125 : Nat) : Int) = _
   rw [sg30 m (acc ++ e.map sg) (by simp; omega) (D : Int) 0 false false k (by omega) 125, List.append_assoc]
   rfl
  ·refine .inl ⟨?_, c3⟩
   unfold f30_j14
   have fin : f30_r13 m (castL l) acc (D : Int) 0 false (i : Int) (k : Int) true = some (.ret ([], (k : Int))) := by
    unfold f30_r13
    rw [cnd_true]
   cases t' with
   | nil => rw [hk.eq, cnd_true, bnd_some', fin]
   | cons c r' =>
    have hc : c ≠ 125 := fun g => c3 ⟨r', by rw [g]⟩
    rw [hk.ne, cnd_false, hk.idx, bnd_some', show ((c : Int) != 125) = true from (neN c 125).trans (decide_eq_true hc), bnd_some', fin]
 have s0 : ∀ (x : List S81 ⊕ List Nat), itA s (123 :: a :: 44 :: r2) = preA [sg 123] (itA (bA 1 D) (a :: 44 :: r2)) := fun _ => hs
 have sA : itA s (123 :: a :: 44 :: r2) = preA [sg 123, sg a, sg 44] (itA (bA 3 D) r2) := by
  rw [hs, itA_some s1, itA_some s2, preA_app, preA_app]
  rfl
 have hAL : (acc ++ [sg 123, sg a, sg 44]).length ≤ i + 1 + 1 + 1 := by simp; omega
 by_cases c4 : ∃ c r3, r2 = c :: r3 ∧ 48 ≤ c ∧ c ≤ 57
 ·obtain ⟨b, r3, rfl, hb⟩ := c4
  have k4 := k3.next
  have s3 : stepA (bA 3 D) b = some (bA 4 D, [sg b]) := by simp [stepA, hb]
  rw [k3.ltI, cnd_true, k3.idx, bnd_some', decide_eq_true (by omega : (b : Int) ≥ 48), bnd_some']
  unfold f30_r16
  rw [cnd_true, h.w, k1.w, k2.w, k3.idx, bnd_some', decide_eq_true (by omega : (b : Int) ≤ 57), bnd_some']
  unfold f30_r15
  rw [cnd_true, h.w, k1.w, k2.w, k3.w]
  rcases fin (i + 1 + 1 + 1 + 1) r3 [123, a, 44, b] k4 rfl rfl with ⟨g1, g2⟩ | ⟨r4, rfl, g1⟩
  ·rw [g1]
   refine .bad r3 _ k4.len ?_
   rw [sA, itA_some s3, bA_no fun c r4 e => by
    have : c ≠ 125 := fun g => g2 ⟨r4, by rw [e, g]⟩
    simp [stepA, this]]
   rfl
  ·rw [g1]
   have s4 : stepA (bA 4 D) 125 = some (oA D false false, [sg 125]) := by simp [stepA]
   refine .go _ (oA D false false) _ r4 rfl hD (by omega) k4.next (by simp; omega) ?_
   rw [sA, itA_some s3, itA_some s4, preA_app, preA_app]
   rfl
 ·have e3 : (bnd (cnd (decide (((i + 1 + 1 + 1 : Nat) : Int) < ((castL l).length : Int))) (bnd (idx (castL l) ((i + 1 + 1 + 1 : Nat) : Int)) fun v789 => some (decide (v789 ≥ 48))) (some false)) fun v745 => f30_r16 m (castL l) acc (D : Int) 0 false (i : Int) v745) = f30_j14 m (castL l) acc (D : Int) 0 false (i : Int) ((i + 1 + 1 + 1 : Nat) : Int) := by
   have fin2 : f30_r15 m (castL l) acc (D : Int) 0 false (i : Int) false = f30_j14 m (castL l) acc (D : Int) 0 false (i : Int) ((i + 1 + 1 + 1 : Nat) : Int) := by
    unfold f30_r15
    rw [cnd_false, h.w, k1.w, k2.w]
   cases r2 with
   | nil =>
    rw [k3.geI, cnd_false, bnd_some']
    unfold f30_r16
    rw [cnd_false, bnd_some', fin2]
   | cons c r3 =>
    have hc : ¬ (48 ≤ c ∧ c ≤ 57) := fun g => c4 ⟨c, r3, rfl, g⟩
    rw [k3.ltI, cnd_true, k3.idx, bnd_some', bnd_some']
    unfold f30_r16
    by_cases h48 : c < 48
    ·rw [decide_eq_false (by omega : ¬ (c : Int) ≥ 48), cnd_false, bnd_some', fin2]
    ·rw [decide_eq_true (by omega : (c : Int) ≥ 48), cnd_true, h.w, k1.w, k2.w, k3.idx, bnd_some', decide_eq_false (by omega : ¬ (c : Int) ≤ 57), bnd_some', fin2]
  rw [e3]
  rcases fin (i + 1 + 1 + 1) r2 [123, a, 44] k3 rfl rfl with ⟨g1, g2⟩ | ⟨r3, rfl, g1⟩
  ·rw [g1]
   refine .bad r2 _ k3.len ?_
   rw [sA, bA_no fun c r3 e => by
    have g3 : c ≠ 125 := fun g => g2 ⟨r3, by rw [e, g]⟩
    have g4 : ¬ (48 ≤ c ∧ c ≤ 57) := fun g => c4 ⟨c, r3, e, g⟩
    simp [stepA, g3, g4]]
   rfl
  ·rw [g1]
   have s3 : stepA (bA 3 D) 125 = some (oA D false false, [sg 125]) := by simp [stepA]
   refine .go _ (oA D false false) _ r3 rfl hD (by omega) k3.next (by simp; omega) ?_
   rw [sA, itA_some s3, preA_app]
   rfl
theorem turn30 (m : Nat) (hm : 100000 ≤ m) (l : List Nat) (acc : List S81) (s : AS) (hs : mainM s.md = true) (hp : s.pile ≤ 80) {i c : Nat} {r : List Nat} (h : Cut l i (c :: r)) (ha : acc.length ≤ i) : Turn l acc s i (c :: r) (B30 m (castL l) (st30 acc s i)) := by
 have hl4 := h.2.2
 have hil := h.lt
 show Turn l acc s i (c :: r) (f30_B33 m (castL l) acc (s.pile : Int) (encM s.md) s.need s.was (i : Int))
 unfold f30_B33
 rw [h.ltI, cnd_true, h.idx, bnd_some', f49_eq m (by omega), bnd_some']
 unfold f30_r32
 by_cases h92 : c = 92
 ·subst h92
  rw [show (((92 : Nat) : Int) == 92) = true from rfl, cnd_true, h.w]
  obtain ⟨s1, e1, e2, e3, e4⟩ := step92 s hs
  have k1 := h.next
  cases r with
  | nil =>
   rw [k1.eq, cnd_true, bnd_some']
   unfold f30_r31
   rw [cnd_true, h.w]
   refine .bad [] (i + 1) k1.len ?_
   rw [itA_some e1, preA_nil]
   exact itA_stuck (fun _ g => e4 g.1) (fun _ _ g => by cases g)
  | cons x r1 =>
   rw [k1.ne, cnd_false, k1.idx, bnd_some', bnd_some']
   unfold f30_r31
   by_cases h0 : x = 0
   ·subst h0
    rw [show (((0 : Nat) : Int) == 0) = true from rfl, cnd_true, h.w]
    refine .bad (0 :: r1) (i + 1) k1.len ?_
    rw [itA_some e1, preA_nil, itA_none e3]
   ·rw [show ((x : Int) == 0) = false from (eqN x 0).trans (decide_eq_false h0), cnd_false, h.w, k1.idx, bnd_some', plain30 m l acc s hs x (i + 1) (by omega) (by omega)]
    refine .go [pl x] s.after (i + 1 + 1) r1 (after_main s) (by rw [after_pile]; exact hp) (by omega) k1.next (by simp; omega) ?_
    rw [itA_some e1, preA_nil, itA_some (e2 x h0)]
 ·rw [show ((c : Int) == 92) = false from (eqN c 92).trans (decide_eq_false h92), cnd_false]
  have hpl : ((!specL.contains c) && ((c : Int) != 0)) = plC c := by
   unfold plC
   rw [show ((c : Int) != 0) = decide (c ≠ 0) from neN c 0]
   congr 1
   by_cases h0 : c = 0 <;> simp [h0]
  rw [hpl]
  cases hc : plC c with
  | true =>
   have h0 := (plC_iff c).1 hc
   have hcs : specL.contains c = false := by
    cases hh : specL.contains c with
    | false => rfl
    | true => exact absurd ((spec_mem c).1 hh) h0.2
   rw [plain30 m l acc s hs c i (by omega) (by omega)]
   exact .go [pl c] s.after (i + 1) r (after_main s) (by rw [after_pile]; exact hp) (by omega) h.next (by simp; omega) (itA_some (stepPl s hs h0.1 hcs))
  | false =>
   unfold f30_j30
   rw [cnd_false]
   obtain ⟨md, pile, need, was⟩ := s
   have hp : pile ≤ 80 := hp
   cases md with
   | esc b => cases hs
   | br k => cases hs
   | set e =>
    unfold f30_r29
    by_cases hx : c = 93 ∧ e = true
    ·obtain ⟨rfl, rfl⟩ := hx
     show Turn l acc _ i _ (cnd ((((93 : Nat) : Int) == 93) && ((2 : Int) == 2)) _ _)
     rw [show ((((93 : Nat) : Int) == 93) && ((2 : Int) == 2)) = true from rfl, cnd_true]
     unfold f30_j5 f30_j3
     rw [sg30 m acc (by omega) _ _ _ _ i (by omega) 93]
     exact .go [sg 93] (oA pile false false) (i + 1) r rfl hp (by omega) h.next (by simp; omega) (itA_some (by simp [stepA, plC, specL]))
    ·have : (((c : Int) == 93) && (encM (.set e) == 2)) = false := by
      cases e with
      | false => simp [encM]
      | true =>
       have : c ≠ 93 := fun g => hx ⟨g, rfl⟩
       rw [show ((c : Int) == 93) = false from (eqN c 93).trans (decide_eq_false this), Bool.false_and]
     show Turn l acc _ i _ (cnd (((c : Int) == 93) && (encM (.set e) == 2)) _ (cnd (decide (encM (.set e) > 0)) _ _))
     rw [this, cnd_false, decide_eq_true (by cases e <;> decide), cnd_true]
     exact .bad (c :: r) i h.len (itA_none (by
      simp only [stepA, h92, hc, if_false, Bool.false_eq_true]
      exact if_neg hx))
   | out =>
    unfold f30_r29
    show Turn l acc _ i _ (cnd (((c : Int) == 93) && ((0 : Int) == 2)) _ (cnd (decide ((0 : Int) > 0)) _ _))
    rw [show (((c : Int) == 93) && ((0 : Int) == 2)) = false by simp, cnd_false, decide_eq_false (by omega), cnd_false, show ((c : Int) == 91) = decide (c = 91) from eqN c 91]
    have hst : stepA ⟨.out, pile, need, was⟩ c = (if c = 91 then some ((⟨.set false, pile, need, false⟩ : AS), [sg c])
      else if c = 40 then (if pile = 80 then none else some (⟨.out, pile + 1, true, true⟩, [sg c]))
      else if c = 41 ∧ 0 < pile ∧ (need = false ∨ was = true) then some (⟨.out, pile - 1, false, false⟩, [sg c])
      else if (c = 124 ∨ c = 38 ∨ c = 45) ∧ need = false then some (⟨.out, pile, true, false⟩, [sg c])
      else if (c = 42 ∨ c = 43 ∨ c = 63) ∧ need = false then some (⟨.out, pile, false, false⟩, [sg c])
      else if c = 123 ∧ need = false then some (⟨.br 1, pile, false, false⟩, [sg c])
      else none) := by
     simp only [stepA, h92, hc, if_false, Bool.false_eq_true]
    by_cases h91 : c = 91
    ·subst h91
     rw [decide_eq_true rfl, cnd_true]
     unfold f30_j7 f30_j6 f30_j5 f30_j3
     rw [sg30 m acc (by omega) _ _ _ _ i (by omega) 91]
     exact .go [sg 91] (sS false pile need) (i + 1) r rfl hp (by omega) h.next (by simp; omega) (itA_some (by rw [hst, if_pos rfl]))
    rw [decide_eq_false h91, cnd_false, show ((c : Int) == 40) = decide (c = 40) from eqN c 40]
    rw [if_neg h91] at hst
    by_cases h40 : c = 40
    ·subst h40
     rw [decide_eq_true rfl, cnd_true, show ((pile : Int) == 80) = decide (pile = 80) from eqN pile 80]
     rw [if_pos rfl] at hst
     by_cases h80 : pile = 80
     ·rw [decide_eq_true h80, cnd_true]
      rw [if_pos h80] at hst
      exact .bad (40 :: r) i h.len (itA_none hst)
     ·rw [decide_eq_false h80, cnd_false]
      rw [if_neg h80] at hst
      unfold f30_j8 f30_j7 f30_j6 f30_j5 f30_j3
      have hw : w64 ((pile : Int) + 1) = ((pile + 1 : Nat) : Int) := by rw [w64_id ⟨by omega, by omega⟩]; omega
      show Turn l acc _ i _ (f30_j2 m acc (w64 ((pile : Int) + 1)) 0 true true (i : Int) ((40 : Nat) : Int))
      rw [hw, sg30 m acc (by omega) _ _ _ _ i (by omega) 40]
      exact .go [sg 40] (oA (pile + 1) true true) (i + 1) r rfl (by show pile + 1 ≤ 80; omega) (by omega) h.next (by simp; omega) (itA_some hst)
    rw [decide_eq_false h40, cnd_false]
    rw [if_neg h40] at hst
    unfold f30_r28 f30_r27
    have e41 : ((((c : Int) == 41) && decide ((pile : Int) > 0)) && ((!need) || was)) = decide (c = 41 ∧ 0 < pile ∧ (need = false ∨ was = true)) := by
     rw [show ((c : Int) == 41) = decide (c = 41) from eqN c 41, Bool.eq_iff_iff]
     simp only [Bool.and_eq_true, decide_eq_true_eq, Bool.or_eq_true, Bool.not_eq_true']
     constructor
     ·rintro ⟨⟨a1, a2⟩, a3⟩; exact ⟨a1, by omega, a3⟩
     ·rintro ⟨a1, a2, a3⟩; exact ⟨⟨a1, by omega⟩, a3⟩
    show Turn l acc _ i _ (cnd ((((c : Int) == 41) && decide ((pile : Int) > 0)) && ((!need) || was)) _ _)
    rw [e41]
    by_cases h41 : c = 41 ∧ 0 < pile ∧ (need = false ∨ was = true)
    ·rw [decide_eq_true h41, cnd_true]
     rw [if_pos h41] at hst
     unfold f30_j9 f30_j8 f30_j7 f30_j6 f30_j5 f30_j3
     have hw : w64 ((pile : Int) - 1) = ((pile - 1 : Nat) : Int) := by rw [w64_id ⟨by omega, by omega⟩]; omega
     show Turn l acc _ i _ (f30_j2 m acc (w64 ((pile : Int) - 1)) 0 false false (i : Int) (c : Int))
     rw [hw, sg30 m acc (by omega) _ _ _ _ i (by omega) c]
     exact .go [sg c] (oA (pile - 1) false false) (i + 1) r rfl (by show pile - 1 ≤ 80; omega) (by omega) h.next (by simp; omega) (itA_some hst)
    rw [decide_eq_false h41, cnd_false]
    rw [if_neg h41] at hst
    unfold f30_r26 f30_r25 f30_r24
    have e124 : (((((c : Int) == 124) || ((c : Int) == 38)) || ((c : Int) == 45)) && !need) = decide ((c = 124 ∨ c = 38 ∨ c = 45) ∧ need = false) := by
     rw [show ((c : Int) == 124) = decide (c = 124) from eqN c 124, show ((c : Int) == 38) = decide (c = 38) from eqN c 38, show ((c : Int) == 45) = decide (c = 45) from eqN c 45, Bool.eq_iff_iff]
     simp only [Bool.and_eq_true, decide_eq_true_eq, Bool.or_eq_true, Bool.not_eq_true', or_assoc]
    rw [e124]
    by_cases h124 : (c = 124 ∨ c = 38 ∨ c = 45) ∧ need = false
    ·rw [decide_eq_true h124, cnd_true]
     rw [if_pos h124] at hst
     unfold f30_j10 f30_j9 f30_j8 f30_j7 f30_j6 f30_j5 f30_j3
     show Turn l acc _ i _ (f30_j2 m acc (pile : Int) 0 true false (i : Int) (c : Int))
     rw [sg30 m acc (by omega) _ _ _ _ i (by omega) c]
     exact .go [sg c] (oA pile true false) (i + 1) r rfl hp (by omega) h.next (by simp; omega) (itA_some hst)
    rw [decide_eq_false h124, cnd_false]
    rw [if_neg h124] at hst
    unfold f30_r23 f30_r22 f30_r21
    have e42 : (((((c : Int) == 42) || ((c : Int) == 43)) || ((c : Int) == 63)) && !need) = decide ((c = 42 ∨ c = 43 ∨ c = 63) ∧ need = false) := by
     rw [show ((c : Int) == 42) = decide (c = 42) from eqN c 42, show ((c : Int) == 43) = decide (c = 43) from eqN c 43, show ((c : Int) == 63) = decide (c = 63) from eqN c 63, Bool.eq_iff_iff]
     simp only [Bool.and_eq_true, decide_eq_true_eq, Bool.or_eq_true, Bool.not_eq_true', or_assoc]
    rw [e42]
    by_cases h42 : (c = 42 ∨ c = 43 ∨ c = 63) ∧ need = false
    ·rw [decide_eq_true h42, cnd_true]
     rw [if_pos h42] at hst
     obtain ⟨h42a, rfl⟩ := h42
     unfold f30_j11 f30_j10 f30_j9 f30_j8 f30_j7 f30_j6 f30_j5 f30_j3
     show Turn l acc _ i _ (f30_j2 m acc (pile : Int) 0 false false (i : Int) (c : Int))
     rw [sg30 m acc (by omega) _ _ _ _ i (by omega) c]
     exact .go [sg c] (oA pile false false) (i + 1) r rfl hp (by omega) h.next (by simp; omega) (itA_some hst)
    rw [decide_eq_false h42, cnd_false]
    rw [if_neg h42] at hst
    by_cases h123 : c = 123 ∧ need = false
    ·rw [if_pos h123] at hst
     obtain ⟨rfl, rfl⟩ := h123
     show Turn l acc _ i _ (f30_r20 m (castL l) acc (pile : Int) 0 false (i : Int) true)
     exact brace30 m hm l acc pile hp was h ha _ (itA_some hst)
    ·have e123 : (((c : Int) == 123) && !need) = false := by
      rw [show ((c : Int) == 123) = decide (c = 123) from eqN c 123]
      cases hh : (decide (c = 123) && !need) with
      | false => rfl
      | true =>
       simp only [Bool.and_eq_true, decide_eq_true_eq, Bool.not_eq_true'] at hh
       exact absurd hh h123
     rw [if_neg h123] at hst
     rw [e123]
     unfold f30_r20
     rw [cnd_false]
     exact .bad (c :: r) i h.len (itA_none hst)
theorem items_loop (m : Nat) (hm : 100000 ≤ m) (l : List Nat) : ∀ (M i : Nat) (acc : List S81) (s : AS) (t : List Nat), Cut l i t → mainM s.md = true → s.pile ≤ 80 → acc.length ≤ i → t.length < M →
  fin30 m (castL l) (iter (B30 m (castL l)) M (st30 acc s i)) = some (ans l.length acc (itA s t))
 | 0, _, _, _, _, _, _, _, _, h => by omega
 | M + 1, i, acc, s, t, h, hs, hp, ha, hM => by
  cases t with
  | nil =>
   have hB : B30 m (castL l) (st30 acc s i) = some (.brk (st30 acc s i)) := by
    show f30_B33 m (castL l) acc (s.pile : Int) (encM s.md) s.need s.was (i : Int) = _
    unfold f30_B33
    rw [h.geI, cnd_false]
    rfl
   unfold iter
   rw [hB]
   show f30_r35 m (castL l) (st30 acc s i) (s.need || decide ((s.pile : Int) > 0)) = _
   unfold f30_r35 f30_r34
   show cnd ((s.need || decide ((s.pile : Int) > 0)) || decide (encM s.md > 0)) _ _ = _
   by_cases hg : s.md = .out ∧ s.need = false ∧ s.pile = 0
   ·have e : ((s.need || decide ((s.pile : Int) > 0)) || decide (encM s.md > 0)) = false := by
     rw [hg.1, hg.2.1, hg.2.2]; rfl
    have e2 : itA s [] = .inl [] := by unfold itA; rw [if_pos hg]
    rw [e, cnd_false, e2]
    simp [ans, st30]
   ·have e : ((s.need || decide ((s.pile : Int) > 0)) || decide (encM s.md > 0)) = true := by
     apply Classical.byContradiction
     intro g
     have g : ((s.need || decide ((s.pile : Int) > 0)) || decide (encM s.md > 0)) = false := by simpa using g
     simp only [Bool.or_eq_false_iff, decide_eq_false_iff_not] at g
     refine hg ⟨?_, g.1.1, by omega⟩
     obtain ⟨md, pile, need, was⟩ := s
     cases md with
     | out => rfl
     | set e =>
      cases e with
      | false => exact absurd (show (1 : Int) > 0 by omega) g.2
      | true => exact absurd (show (2 : Int) > 0 by omega) g.2
     | esc b => cases hs
     | br k => cases hs
    have e2 : itA s [] = .inr [] := by unfold itA; rw [if_neg hg]
    rw [e, cnd_true, e2, castL_len]
    rfl
  | cons c r =>
   have ht := turn30 m hm l acc s hs hp h ha
   generalize hB : B30 m (castL l) (st30 acc s i) = o at ht
   cases ht with
   | go e s' k t' g1 g2 g3 g4 g5 g6 =>
    have hl : t'.length < (c :: r).length := by have := h.len; have := g4.len; omega
    have ih := items_loop m hm l M k (acc ++ e) s' t' g4 g1 g2 g5 (by omega)
    have hit : iter (B30 m (castL l)) (M + 1) (st30 acc s i) = iter (B30 m (castL l)) M (st30 (acc ++ e) s' k) := by
     conv => lhs; unfold iter
     rw [hB]
    rw [hit, ih, g6, ans_pre]
   | bad t' k g1 g2 =>
    have hit : iter (B30 m (castL l)) (M + 1) (st30 acc s i) = some (.inl ([], (k : Int))) := by
     conv => lhs; unfold iter
     rw [hB]
    rw [hit, g2]
    show some (([] : List S81), (k : Int)) = some ([], ((l.length - t'.length : Nat) : Int))
    rw [show l.length - t'.length = k by omega]
theorem items_eq (m : Nat) (hm : 100000 ≤ m) (l : List Nat) (hl : l.length ≤ 4000) : f30 m (castL l) = some (ans l.length [] (itA (oA 0 true false) l)) := by
 have h := items_loop m hm l m 0 [] (oA 0 true false) l ⟨rfl, Nat.zero_le _, hl⟩ rfl (Nat.zero_le _) (Nat.le_refl _) (by omega)
 exact h
def insI (x : Int) : List Int → List Int
 | [] => [x]
 | y :: r => if y < x then y :: insI x r else if y = x then y :: r else x :: y :: r
def leadI (x : Int) (l : List Int) : Nat := (l.takeWhile fun y => decide (y < x)).length
theorem insI_mem (x z : Int) : ∀ l : List Int, z ∈ insI x l ↔ z = x ∨ z ∈ l
 | [] => by simp [insI]
 | y :: r => by
  unfold insI
  split
  ·rw [List.mem_cons, insI_mem x z r, List.mem_cons]
   constructor
   ·rintro (h | h | h)
    ·exact .inr (.inl h)
    ·exact .inl h
    ·exact .inr (.inr h)
   ·rintro (h | h | h)
    ·exact .inr (.inl h)
    ·exact .inl h
    ·exact .inr (.inr h)
  ·split
   ·rename_i h
    subst h
    simp
   ·simp
theorem insI_ss (x : Int) : ∀ {l : List Int}, l.Pairwise (· < ·) → (insI x l).Pairwise (· < ·)
 | [], _ => by simp [insI]
 | y :: r, h => by
  obtain ⟨h1, h2⟩ := List.pairwise_cons.1 h
  unfold insI
  split
  ·rename_i hlt
   refine List.pairwise_cons.2 ⟨fun z hz => ?_, insI_ss x h2⟩
   rcases (insI_mem x z r).1 hz with rfl | hz
   ·exact hlt
   ·exact h1 z hz
  ·split
   ·exact h
   ·rename_i g1 g2
    refine List.pairwise_cons.2 ⟨fun z hz => ?_, h⟩
    rcases List.mem_cons.1 hz with rfl | hz
    ·omega
    ·have := h1 z hz; omega
theorem ssI_ext : ∀ {a b : List Int}, a.Pairwise (· < ·) → b.Pairwise (· < ·) → (∀ x, x ∈ a ↔ x ∈ b) → a = b
 | [], [], _, _, _ => rfl
 | [], y :: r, _, _, h => by have := (h y).2 List.mem_cons_self; cases this
 | x :: r, [], _, _, h => by have := (h x).1 List.mem_cons_self; cases this
 | x :: a, y :: b, ha, hb, h => by
  obtain ⟨a1, a2⟩ := List.pairwise_cons.1 ha
  obtain ⟨b1, b2⟩ := List.pairwise_cons.1 hb
  have hxy : x = y := by
   have h1 := (h x).1 List.mem_cons_self
   have h2 := (h y).2 List.mem_cons_self
   rcases List.mem_cons.1 h1 with h1 | h1
   ·exact h1
   ·rcases List.mem_cons.1 h2 with h2 | h2
    ·exact h2.symm
    ·have := b1 x h1; have := a1 y h2; omega
  subst hxy
  rw [ssI_ext a2 b2 fun z => ?_]
  constructor
  ·intro hz
   rcases List.mem_cons.1 ((h z).1 (List.mem_cons_of_mem _ hz)) with e | e
   ·have := a1 z hz; omega
   ·exact e
  ·intro hz
   rcases List.mem_cons.1 ((h z).2 (List.mem_cons_of_mem _ hz)) with e | e
   ·have := b1 z hz; omega
   ·exact e
theorem upToI (d : Array Int) (hs : ∀ i, i + 1 < d.size → d[i]! ≤ d[i + 1]!) : ∀ m, m ≤ d.size →
  (Lib.compactUpTo d m).Pairwise (· < ·) ∧ (∀ x, x ∈ Lib.compactUpTo d m ↔ ∃ i, i < m ∧ d[i]! = x) ∧ ∀ x ∈ Lib.compactUpTo d m, x ≤ d[m - 1]!
 | 0, _ => by
  refine ⟨?_, fun x => ?_, fun x hx => ?_⟩
  ·simp [Lib.compactUpTo]
  ·simp [Lib.compactUpTo]
  ·simp [Lib.compactUpTo] at hx
 | m + 1, hm => by
  obtain ⟨i1, i2, i3⟩ := upToI d hs m (by omega)
  rw [Lib.compactUpTo_succ]
  have hprev : 0 < m → d[m - 1]! ≤ d[m]! := fun h0 => by
   have := hs (m - 1) (by omega)
   rwa [show m - 1 + 1 = m by omega] at this
  cases hk : Lib.keeps d m with
  | true =>
   simp only [if_true]
   have hlast : ∀ x ∈ Lib.compactUpTo d m, x < d[m]! := by
    intro x hx
    have h0 : 0 < m := by
     obtain ⟨i, h1, _⟩ := (i2 x).1 hx
     omega
    have hne : d[m]! ≠ d[m - 1]! := by
     intro e
     rw [Lib.keeps_neg h0 e] at hk; cases hk
    have h1 := hprev h0
    have h2 := i3 x hx
    omega
   refine ⟨List.pairwise_append.2 ⟨i1, List.pairwise_singleton _ _, fun a ha b hb => by rw [List.mem_singleton.1 hb]; exact hlast a ha⟩, fun x => ?_, fun x hx => ?_⟩
   ·rw [List.mem_append, List.mem_singleton, i2]
    constructor
    ·rintro (⟨i, h1, h2⟩ | h)
     ·exact ⟨i, by omega, h2⟩
     ·exact ⟨m, by omega, h.symm⟩
    ·rintro ⟨i, h1, h2⟩
     rcases Nat.lt_or_ge i m with h | h
     ·exact .inl ⟨i, h, h2⟩
     ·have : i = m := by omega
      subst this
      exact .inr h2.symm
   ·rw [Nat.add_sub_cancel]
    rcases List.mem_append.1 hx with hx | hx
    ·exact Int.le_of_lt (hlast x hx)
    ·rw [List.mem_singleton.1 hx]; exact Int.le_refl _
  | false =>
   have h0 : 0 < m := by
    rcases Nat.eq_zero_or_pos m with h | h
    ·subst h; rw [Lib.keeps_lt_one d 0 (by omega)] at hk; cases hk
    ·exact h
   have heq : d[m]! = d[m - 1]! := by
    rcases Classical.em (d[m]! = d[m - 1]!) with h | h
    ·exact h
    ·rw [Lib.keeps_pos h] at hk; cases hk
   simp only [Bool.false_eq_true, if_false, List.append_nil]
   refine ⟨i1, fun x => ?_, fun x hx => ?_⟩
   ·rw [i2]
    constructor
    ·rintro ⟨i, h1, h2⟩; exact ⟨i, by omega, h2⟩
    ·rintro ⟨i, h1, h2⟩
     rcases Nat.lt_or_ge i m with h | h
     ·exact ⟨i, h, h2⟩
     ·have : i = m := by omega
      subst this
      exact ⟨i - 1, by omega, by rw [← heq]; exact h2⟩
   ·rw [Nat.add_sub_cancel, heq]; exact i3 x hx
theorem setI_spec (l : List Int) : (compactI (sortI l)).Pairwise (· < ·) ∧ ∀ x, x ∈ compactI (sortI l) ↔ x ∈ l := by
 have hp := List.pairwise_mergeSort (le := fun x y : Int => decide (x ≤ y)) (fun a b c h1 h2 => by simp only [decide_eq_true_eq] at *; omega) (fun a b => by simp only [Bool.or_eq_true, decide_eq_true_eq]; omega) l
 have hmem : ∀ x, x ∈ l.mergeSort (fun x y => decide (x ≤ y)) ↔ x ∈ l := fun x => (List.mergeSort_perm l _).mem_iff
 unfold sortI
 generalize l.mergeSort (fun x y => decide (x ≤ y)) = s at hp hmem
 have hidx : ∀ i, i + 1 < s.toArray.size → s.toArray[i]! ≤ s.toArray[i + 1]! := by
  intro i hi
  have hi' : i + 1 < s.length := by simpa using hi
  have := (List.pairwise_iff_getElem.1 hp) i (i + 1) (by omega) hi' (by omega)
  rw [getElem!_pos _ (i + 1) hi, getElem!_pos _ i (by omega)]
  simpa using this
 obtain ⟨h1, h2, _⟩ := upToI s.toArray hidx s.length (by simp)
 refine ⟨h1, fun x => ?_⟩
 rw [← hmem x]
 refine (h2 x).trans ⟨?_, ?_⟩
 ·rintro ⟨i, hi, rfl⟩
  rw [getElem!_pos _ i (by simpa using hi)]
  simp
 ·intro hx
  obtain ⟨i, hi, rfl⟩ := List.getElem_of_mem hx
  exact ⟨i, hi, by rw [getElem!_pos _ i (by simpa using hi)]; simp⟩
theorem foldI_spec : ∀ (l acc : List Int), acc.Pairwise (· < ·) → (l.foldl (fun a x => insI x a) acc).Pairwise (· < ·) ∧ ∀ x, x ∈ l.foldl (fun a x => insI x a) acc ↔ x ∈ acc ∨ x ∈ l
 | [], acc, h => ⟨h, fun x => by simp⟩
 | y :: r, acc, h => by
  obtain ⟨h1, h2⟩ := foldI_spec r (insI y acc) (insI_ss y h)
  refine ⟨h1, fun x => ?_⟩
  rw [List.foldl_cons, h2 x, insI_mem, List.mem_cons]
  constructor
  ·rintro ((h | h) | h)
   ·exact .inr (.inl h)
   ·exact .inl h
   ·exact .inr (.inr h)
  ·rintro (h | h | h)
   ·exact .inl (.inr h)
   ·exact .inl (.inl h)
   ·exact .inr h
theorem foldI_eq (l : List Int) : l.foldl (fun a x => insI x a) [] = compactI (sortI l) := by
 obtain ⟨h1, h2⟩ := foldI_spec l [] List.Pairwise.nil
 obtain ⟨h3, h4⟩ := setI_spec l
 exact ssI_ext h1 h3 fun x => by rw [h2, h4]; simp
theorem insI_lead (x : Int) : ∀ l : List Int, leadI x l ≤ l.length ∧ (∀ i, i < leadI x l → ∃ y, l[i]? = some y ∧ y < x) ∧ (∀ y, l[leadI x l]? = some y → ¬ y < x) ∧
  insI x l = if l[leadI x l]? = some x then l else l.take (leadI x l) ++ x :: l.drop (leadI x l)
 | [] => by
  refine ⟨Nat.le_refl _, fun i h => by simp [leadI] at h, fun y h => by simp at h, ?_⟩
  simp [insI, leadI]
 | y :: r => by
  obtain ⟨h1, h2, h3, h4⟩ := insI_lead x r
  by_cases hlt : y < x
  ·have e : leadI x (y :: r) = leadI x r + 1 := by simp [leadI, hlt]
   rw [e]
   refine ⟨by rw [List.length_cons]; omega, fun i hi => ?_, fun z hz => h3 z (by simpa using hz), ?_⟩
   ·cases i with
    | zero => exact ⟨y, rfl, hlt⟩
    | succ i => exact h2 i (by omega)
   ·unfold insI
    rw [if_pos hlt, h4, List.getElem?_cons_succ]
    split <;> simp
  ·have e : leadI x (y :: r) = 0 := by simp [leadI, hlt]
   rw [e]
   refine ⟨Nat.zero_le _, fun i hi => by omega, fun z hz => by simp at hz; rw [← hz]; exact hlt, ?_⟩
   unfold insI
   rw [if_neg hlt]
   by_cases hxy : y = x
   ·simp [hxy]
   ·simp [hxy]
theorem f52_eq (m : Nat) (acc : List Int) (x : Int) (hm : acc.length + 10 < m) (ha : acc.length ≤ 1000000) : f52 m acc [x] = some (insI x acc) := by
 obtain ⟨h1, h2, h3, h4⟩ := insI_lead x acc
 have hin : ∀ (M i : Nat), i ≤ leadI x acc → leadI x acc < M + i → iter (fun (y : Int) => f52_B3 m acc x y) M (i : Int) = some (.inr (leadI x acc : Int)) := by
  intro M
  induction M with
  | zero => intro i g1 g2; omega
  | succ M ih =>
   intro i g1 g2
   have hw : w64 ((i : Int) + 1) = ((i + 1 : Nat) : Int) := by rw [w64_id ⟨by omega, by omega⟩]; omega
   unfold iter
   unfold f52_B3
   by_cases hlt : i < leadI x acc
   ·obtain ⟨y, e1, e2⟩ := h2 i hlt
    have e3 : idx acc (i : Int) = some y := by simp [idx, e1]
    rw [decide_eq_true (by omega), cnd_true, e3, bnd_some', decide_eq_true e2, bnd_some']
    unfold f52_r2
    rw [cnd_true, hw]
    exact ih (i + 1) hlt (by omega)
   ·have hi : i = leadI x acc := by omega
    subst hi
    rcases Nat.lt_or_ge (leadI x acc) acc.length with hl | hl
    ·have e1 := List.getElem?_eq_getElem hl
     have e3 : idx acc ((leadI x acc : Nat) : Int) = some acc[leadI x acc] := by simp [idx, e1]
     rw [decide_eq_true (by omega), cnd_true, e3, bnd_some', decide_eq_false (h3 _ e1), bnd_some']
     rfl
    ·rw [decide_eq_false (by omega), cnd_false, bnd_some']
     rfl
 have hin0 := hin m 0 (Nat.zero_le _) (by omega)
 have hB : f52_B6 m [x] acc 0 = some (.nxt (insI x acc, 1)) := by
  unfold f52_B6
  rw [show decide ((0 : Int) < (([x] : List Int).length : Int)) = true from rfl, cnd_true, show idx [x] (0 : Int) = some x from rfl, bnd_some']
  have hin0 : iter (fun (y : Int) => f52_B3 m acc x y) m 0 = some (.inr (leadI x acc : Int)) := hin0
  rw [hin0, brk_inr, h4]
  have hins : f52_r5 m acc 0 x (leadI x acc : Int) true = some (.nxt (acc.take (leadI x acc) ++ x :: acc.drop (leadI x acc), 1)) := by
   have s1 : sub acc 0 (leadI x acc : Int) = some (acc.take (leadI x acc)) := by
    unfold sub
    rw [if_pos ⟨by omega, by omega, by omega⟩]
    simp
   have s2 : sub acc (leadI x acc : Int) (acc.length : Int) = some (acc.drop (leadI x acc)) := by
    unfold sub
    rw [if_pos ⟨by omega, by omega, by omega⟩]
    simp
    rw [List.take_of_length_le (by simp)]
   unfold f52_r5
   rw [cnd_true, s1, bnd_some', app_some 8 [] _ (by simp; omega) (by simp; omega), bnd_some', List.nil_append, app_some 8 _ [x] (by simp; omega) (by simp; omega), bnd_some', s2, bnd_some', app_some 8 _ _ (by simp; omega) (by simp; omega), bnd_some']
   unfold f52_j4 f52_j1
   simp
   rfl
  have hkeep : f52_r5 m acc 0 x (leadI x acc : Int) false = some (.nxt (acc, 1)) := rfl
  rcases Nat.lt_or_ge (leadI x acc) acc.length with hl | hl
  ·have e1 := List.getElem?_eq_getElem hl
   have e3 : idx acc ((leadI x acc : Nat) : Int) = some acc[leadI x acc] := by simp [idx, e1]
   rw [show ((leadI x acc : Int) == (acc.length : Int)) = false by simp; omega, cnd_false, e3, bnd_some', bnd_some', e1]
   by_cases hx : acc[leadI x acc] = x
   ·rw [hx, show (x != x) = false by simp, if_pos rfl, hkeep]
   ·rw [show (acc[leadI x acc] != x) = true by simpa using hx, if_neg (by simpa using hx), hins]
  ·rw [show ((leadI x acc : Int) == (acc.length : Int)) = true by simp; omega, cnd_true, bnd_some', List.getElem?_eq_none hl, if_neg (by simp), hins]
 obtain ⟨M, rfl⟩ : ∃ M, m = M + 2 := ⟨m - 2, by omega⟩
 unfold f52
 rw [app_some 8 [] acc (by simp; omega) (by simp; omega), bnd_some', List.nil_append]
 have : iter (fun (y : (List Int) × Int) => f52_B6 (M + 2) [x] y.1 y.2) (M + 2) (acc, 0) = some (.inr (insI x acc, 1)) := by
  unfold iter
  dsimp only
  rw [hB]
  unfold iter
  rfl
 rw [this]
 rfl
def At (e : List S81) (i : Nat) (t : List S81) : Prop := e.drop i = t ∧ i ≤ e.length ∧ e.length ≤ 5000
theorem At.lt {e : List S81} {i : Nat} {x : S81} {r : List S81} (h : At e i (x :: r)) : i < e.length := by
 rcases Nat.lt_or_ge i e.length with g | g
 ·exact g
 ·have := h.1
  rw [List.drop_eq_nil_iff.2 g] at this
  cases this
theorem At.idx {e : List S81} {i : Nat} {x : S81} {r : List S81} (h : At e i (x :: r)) : Abs.idx e (i : Int) = some x := by
 have h1 := h.1
 rw [List.drop_eq_getElem_cons h.lt, List.cons.injEq] at h1
 simp [Abs.idx, List.getElem?_eq_getElem h.lt, h1.1]
theorem At.next {e : List S81} {i : Nat} {x : S81} {r : List S81} (h : At e i (x :: r)) : At e (i + 1) r := by
 have h1 := h.1
 have hl := h.lt
 rw [List.drop_eq_getElem_cons hl, List.cons.injEq] at h1
 exact ⟨h1.2, hl, h.2.2⟩
theorem At.app {e : List S81} : ∀ {a : List S81} {i : Nat} {r : List S81}, At e i (a ++ r) → At e (i + a.length) r
 | [], i, r, h => by simpa using h
 | x :: a, i, r, h => by
  have := At.app (a := a) (At.next (x := x) (r := a ++ r) h)
  rw [List.length_cons, show i + (a.length + 1) = i + 1 + a.length by omega]
  exact this
theorem At.len {e : List S81} {i : Nat} {t : List S81} (h : At e i t) : i + t.length = e.length := by
 have := congrArg List.length h.1
 rw [List.length_drop] at this
 have := h.2.1
 omega
theorem At.w {e : List S81} {i : Nat} {t : List S81} (h : At e i t) : w64 ((i : Int) + 1) = ((i + 1 : Nat) : Int) := by
 have := h.2.1; have := h.2.2
 rw [w64_id ⟨by omega, by omega⟩]; omega
theorem Op.ne {o : List S81} {a b : Int} (h : Op o a b) : o ≠ [] := by cases h <;> simp
theorem Sh.ne {n : Nat} {x : List S81} {ps : List P24} (h : Sh n x ps) : x ≠ [] ∧ ps ≠ [] := by
 induction h <;> simp_all
noncomputable def B51 (m : Nat) (e : List S81) : Int × Int → Option (Stp Int (Int × Int)) := fun y => f51_B8 m e y.1 y.2
theorem b51_eq (m : Nat) {e : List S81} {i : Nat} {x : S81} {r : List S81} (h : At e i (x :: r)) (d : Int) (hd : 0 ≤ d ∧ d ≤ 1000000) :
  B51 m e ((i : Int), d) = some (if x.fSign = true ∧ x.fPoint = 41 then (if d - 1 = 0 then .ret (i : Int) else .nxt (((i + 1 : Nat) : Int), d - 1)) else .nxt (((i + 1 : Nat) : Int), if x.fSign = true ∧ x.fPoint = 40 then d + 1 else d)) := by
 have hix := h.idx
 have hw := h.w
 have w1 : w64 (d + 1) = d + 1 := w64_id ⟨by omega, by omega⟩
 have w2 : w64 (d - 1) = d - 1 := w64_id ⟨by omega, by omega⟩
 obtain ⟨p, s⟩ := x
 show f51_B8 m e (i : Int) d = _
 unfold f51_B8
 rw [hix, bnd_some']
 cases s with
 | false =>
  show (bnd (cnd false _ _) _) = _
  rw [cnd_false, bnd_some']
  unfold f51_r7
  rw [cnd_false]
  unfold f51_j6
  rw [hix, bnd_some']
  show (bnd (cnd false _ _) _) = _
  rw [cnd_false, bnd_some']
  unfold f51_r5 f51_j4 f51_j3
  rw [cnd_false, hw]
  simp
 | true =>
  show (bnd (cnd true _ _) _) = _
  rw [cnd_true, bnd_some', bnd_some']
  unfold f51_r7
  by_cases h40 : p = 40
  ·subst h40
   rw [show ((40 : Int) == 40) = true from rfl, cnd_true]
   unfold f51_j6
   rw [hix, bnd_some']
   show (bnd (cnd true _ _) _) = _
   rw [cnd_true, bnd_some', bnd_some', show ((40 : Int) == 41) = false from rfl]
   unfold f51_r5 f51_j4 f51_j3
   rw [cnd_false, hw, w1]
   simp
  ·rw [show (p == 40) = false by simpa using h40, cnd_false]
   unfold f51_j6
   rw [hix, bnd_some']
   show (bnd (cnd true _ _) _) = _
   rw [cnd_true, bnd_some', bnd_some']
   unfold f51_r5
   by_cases h41 : p = 41
   ·subst h41
    rw [show ((41 : Int) == 41) = true from rfl, cnd_true, w2]
    by_cases h1 : d - 1 = 0
    ·rw [show (d - 1 == 0) = true by simpa using h1, cnd_true]
     simp [h1]
    ·rw [show (d - 1 == 0) = false by simpa using h1, cnd_false]
     unfold f51_j4 f51_j3
     rw [hw]
     simp [h1]
   ·rw [show (p == 41) = false by simpa using h41, cnd_false]
    unfold f51_j4 f51_j3
    rw [hw]
    simp [h40, h41]
def Pas (m : Nat) (x : List S81) : Prop := ∀ (e : List S81) (i : Nat) (rest : List S81) (d : Nat), At e i (x ++ rest) → 1 ≤ d → d + x.length ≤ 100000 → ∀ M, iter (B51 m e) (M + x.length) ((i : Int), (d : Int)) = iter (B51 m e) M (((i + x.length : Nat) : Int), (d : Int))
theorem Pas.nil (m : Nat) : Pas m [] := fun e i rest d h h1 h2 M => rfl
theorem Pas.app {m : Nat} {x y : List S81} (hx : Pas m x) (hy : Pas m y) : Pas m (x ++ y) := by
 intro e i rest d h h1 h2 M
 rw [List.length_append] at h2
 rw [List.append_assoc] at h
 rw [List.length_append, show M + (x.length + y.length) = M + y.length + x.length by omega, hx e i _ d h h1 (by omega), hy e _ rest d h.app h1 (by omega), Nat.add_assoc]
theorem Pas.flat (m : Nat) {x : S81} (hx : x.fSign = false ∨ (x.fPoint ≠ 40 ∧ x.fPoint ≠ 41)) : Pas m [x] := by
 intro e i rest d h h1 h2 M
 have h : At e i (x :: rest) := h
 have hb := b51_eq m h (d : Int) ⟨by omega, by simp at h2; omega⟩
 have n1 : ¬ (x.fSign = true ∧ x.fPoint = 41) := by rintro ⟨a, b⟩; rcases hx with c | c <;> simp_all
 have n2 : ¬ (x.fSign = true ∧ x.fPoint = 40) := by rintro ⟨a, b⟩; rcases hx with c | c <;> simp_all
 rw [if_neg n1, if_neg n2] at hb
 show iter (B51 m e) (M + 1) _ = _
 conv => lhs; unfold iter
 rw [hb]
 rfl
theorem Pas.all (m : Nat) : ∀ {x : List S81}, (∀ y ∈ x, y.fSign = false ∨ (y.fPoint ≠ 40 ∧ y.fPoint ≠ 41)) → Pas m x
 | [], _ => Pas.nil m
 | y :: r, h => Pas.app (x := [y]) (Pas.flat m (h y List.mem_cons_self)) (Pas.all m fun z hz => h z (List.mem_cons_of_mem _ hz))
theorem Pas.par {m : Nat} {x : List S81} (hx : Pas m x) : Pas m (sg 40 :: (x ++ [sg 41])) := by
 intro e i rest d h h1 h2 M
 have h : At e i (sg 40 :: (x ++ (sg 41 :: rest))) := by simpa using h
 have hl : (sg 40 :: (x ++ [sg 41])).length = x.length + 2 := by simp
 rw [hl] at h2 ⊢
 have b1 := b51_eq m h (d : Int) ⟨by omega, by omega⟩
 have b1 : B51 m e ((i : Int), (d : Int)) = some (.nxt (((i + 1 : Nat) : Int), ((d + 1 : Nat) : Int))) := b1
 have b2 := b51_eq m h.next.app ((d + 1 : Nat) : Int) ⟨by omega, by omega⟩
 have e2 : ((d + 1 : Nat) : Int) - 1 = (d : Int) := by omega
 rw [e2] at b2
 have b2 : B51 m e (((i + 1 + x.length : Nat) : Int), ((d + 1 : Nat) : Int)) = some (if (d : Int) = 0 then .ret ((i + 1 + x.length : Nat) : Int) else .nxt (((i + 1 + x.length + 1 : Nat) : Int), (d : Int))) := b2
 rw [if_neg (by omega)] at b2
 rw [show M + (x.length + 2) = (M + 1 + x.length) + 1 by omega]
 conv => lhs; unfold iter
 rw [b1]
 show iter (B51 m e) (M + 1 + x.length) (((i + 1 : Nat) : Int), ((d + 1 : Nat) : Int)) = _
 rw [hx e (i + 1) _ (d + 1) h.next (by omega) (by omega)]
 conv => lhs; unfold iter
 rw [b2]
 show iter (B51 m e) M (((i + 1 + x.length + 1 : Nat) : Int), (d : Int)) = _
 rw [show i + 1 + x.length + 1 = i + (x.length + 2) by omega]
theorem Op.flat {o : List S81} {a b : Int} (h : Op o a b) : ∀ y ∈ o, ∃ c : Nat, y = sg c ∧ c ≠ 40 ∧ c ≠ 41 ∧ c ≠ 91 ∧ c ≠ 124 ∧ c ≠ 38 ∧ (c ≠ 45) := by
 cases h with
 | star | plus | opt =>
  intro y hy
  rw [List.mem_singleton.1 hy]
  exact ⟨_, rfl, by decide⟩
 | least a h =>
  intro y hy
  simp only [List.mem_cons, List.not_mem_nil, or_false] at hy
  rcases hy with rfl | rfl | rfl | rfl
  ·exact ⟨_, rfl, by decide⟩
  ·exact ⟨_, rfl, by omega, by omega, by omega, by omega, by omega, by omega⟩
  ·exact ⟨_, rfl, by decide⟩
  ·exact ⟨_, rfl, by decide⟩
 | both a b h g =>
  intro y hy
  simp only [List.mem_cons, List.not_mem_nil, or_false] at hy
  rcases hy with rfl | rfl | rfl | rfl | rfl
  ·exact ⟨_, rfl, by decide⟩
  ·exact ⟨_, rfl, by omega, by omega, by omega, by omega, by omega, by omega⟩
  ·exact ⟨_, rfl, by decide⟩
  ·exact ⟨_, rfl, by omega, by omega, by omega, by omega, by omega, by omega⟩
  ·exact ⟨_, rfl, by decide⟩
theorem set_pas (m : Nat) (l : List Nat) : Pas m (sg 91 :: (l.map pl ++ [sg 93])) := by
 refine Pas.all m fun y hy => ?_
 rcases List.mem_cons.1 hy with rfl | hy
 ·exact .inr (by decide)
 ·rcases List.mem_append.1 hy with hy | hy
  ·obtain ⟨c, _, rfl⟩ := List.mem_map.1 hy
   exact .inl rfl
  ·rw [List.mem_singleton.1 hy]
   exact .inr (by decide)
theorem Sh.pas (m : Nat) {n : Nat} {x : List S81} {ps : List P24} (h : Sh n x ps) : Pas m x := by
 induction h with
 | chr c => exact Pas.flat m (.inl rfl)
 | emp => exact Pas.par (Pas.nil m)
 | set l _ => exact set_pas m l
 | par _ ih => exact ih.par
 | fac _ ih => exact ih
 | rep _ ho ih =>
  refine ih.app (Pas.all m fun y hy => ?_)
  obtain ⟨c, rfl, h1, h2, _⟩ := ho.flat y hy
  exact .inr ⟨by show (c : Int) ≠ 40; omega, by show (c : Int) ≠ 41; omega⟩
 | row1 _ ih => exact ih
 | rows _ _ ih ih' => exact ih.app ih'
 | seq _ ih => exact ih
 | one _ ih => exact ih
 | both six _ _ ih ih' => exact ih.app ((Pas.flat m (x := sg (if six then 38 else 45)) (.inr (by cases six <;> decide))).app ih')
 | alt1 _ ih => exact ih
 | alts _ _ ih ih' => exact ih.app ((Pas.flat m (x := sg 124) (.inr (by decide))).app ih')
 | ei _ ih => exact ih
theorem clo_paren (m : Nat) (hm : 100000 ≤ m) {x : List S81} (hP : Pas m x) {e : List S81} {i : Nat} {rest : List S81} (h : At e i (sg 40 :: (x ++ sg 41 :: rest))) : f51 m e (i : Int) = some ((i + x.length + 1 : Nat) : Int) := by
 have hlen := h.len
 have h5 := h.2.2
 simp only [List.length_cons, List.length_append] at hlen
 unfold f51
 rw [h.idx, bnd_some']
 show cnd (((40 : Nat) : Int) == 91) _ _ = _
 rw [show (((40 : Nat) : Int) == 91) = false from rfl, cnd_false]
 obtain ⟨M, rfl⟩ : ∃ M, m = M + 1 + x.length + 1 := ⟨m - 2 - x.length, by omega⟩
 have b1 : B51 (M + 1 + x.length + 1) e ((i : Int), 0) = some (.nxt (((i + 1 : Nat) : Int), ((1 : Nat) : Int))) := b51_eq _ h 0 ⟨by omega, by omega⟩
 have b2 : B51 (M + 1 + x.length + 1) e (((i + 1 + x.length : Nat) : Int), ((1 : Nat) : Int)) = some (.ret ((i + 1 + x.length : Nat) : Int)) := b51_eq _ h.next.app ((1 : Nat) : Int) ⟨by omega, by omega⟩
 have : iter (B51 (M + 1 + x.length + 1) e) (M + 1 + x.length + 1) ((i : Int), 0) = some (.inl ((i + 1 + x.length : Nat) : Int)) := by
  conv => lhs; unfold iter
  rw [b1]
  show iter (B51 (M + 1 + x.length + 1) e) (M + 1 + x.length) (((i + 1 : Nat) : Int), ((1 : Nat) : Int)) = _
  rw [hP e (i + 1) _ 1 h.next (by omega) (by omega)]
  conv => lhs; unfold iter
  rw [b2]
 show brk (iter (B51 (M + 1 + x.length + 1) e) (M + 1 + x.length + 1) ((i : Int), 0)) _ _ = _
 rw [this, brk_inl, show i + 1 + x.length = i + x.length + 1 by omega]
theorem clo_set (m : Nat) (hm : 100000 ≤ m) {l : List Nat} {e : List S81} {i : Nat} {rest : List S81} (h : At e i (sg 91 :: (l.map pl ++ sg 93 :: rest))) : f51 m e (i : Int) = some ((i + l.length + 1 : Nat) : Int) := by
 have hlen := h.len
 have h5 := h.2.2
 simp only [List.length_cons, List.length_append, List.length_map] at hlen
 unfold f51
 rw [h.idx, bnd_some']
 show cnd (((91 : Nat) : Int) == 91) _ _ = _
 rw [show (((91 : Nat) : Int) == 91) = true from rfl, cnd_true]
 have go : ∀ (l : List Nat) (M i : Nat), At e i (l.map pl ++ sg 93 :: rest) → l.length < M → iter (fun (y : Int) => f51_B2 m e y) M (i : Int) = some (.inr ((i + l.length : Nat) : Int)) := by
  intro l
  induction l with
  | nil =>
   intro M i h hM
   obtain ⟨M, rfl⟩ : ∃ k, M = k + 1 := ⟨M - 1, by simp at hM; omega⟩
   have h : At e i (sg 93 :: rest) := h
   have hb : f51_B2 m e (i : Int) = some (.brk (i : Int)) := by
    unfold f51_B2
    rw [h.idx, bnd_some']
    show (bnd (cnd false _ _) _) = _
    rw [cnd_false, bnd_some', bnd_some']
    rfl
   unfold iter
   rw [hb]
   rfl
  | cons c l ih =>
   intro M i h hM
   obtain ⟨M, rfl⟩ : ∃ k, M = k + 1 := ⟨M - 1, by simp at hM; omega⟩
   have h : At e i (pl c :: (l.map pl ++ sg 93 :: rest)) := h
   have hb : f51_B2 m e (i : Int) = some (.nxt ((i + 1 : Nat) : Int)) := by
    unfold f51_B2
    rw [h.idx, bnd_some']
    show (bnd (cnd true _ _) _) = _
    rw [cnd_true, bnd_some']
    unfold f51_r1
    rw [cnd_true, h.w]
   unfold iter
   rw [hb]
   refine (ih M (i + 1) h.next (by simp at hM; omega)).trans ?_
   rw [List.length_cons, show i + (l.length + 1) = i + 1 + l.length by omega]
 obtain ⟨M, rfl⟩ : ∃ M, m = M + 1 := ⟨m - 1, by omega⟩
 have b1 : f51_B2 (M + 1) e (i : Int) = some (.nxt ((i + 1 : Nat) : Int)) := by
  unfold f51_B2
  rw [h.idx, bnd_some']
  show (bnd (cnd false _ _) _) = _
  rw [cnd_false, bnd_some', bnd_some']
  show f51_r1 (M + 1) (i : Int) true = _
  unfold f51_r1
  rw [cnd_true, h.w]
 have : iter (fun (y : Int) => f51_B2 (M + 1) e y) (M + 1) (i : Int) = some (.inr ((i + 1 + l.length : Nat) : Int)) := by
  conv => lhs; unfold iter
  rw [b1]
  exact go l M (i + 1) h.next (by omega)
 rw [this, brk_inr, show i + 1 + l.length = i + l.length + 1 by omega]
abbrev St50 := (List (List S81)) × (List Int) × Int × Int
noncomputable def B50 (m : Nat) (e : List S81) (L : List Int) : St50 → Option (Stp ((List (List S81)) × (List Int)) St50) := fun y => f50_B6 m e L y.1 y.2.1 y.2.2.1 y.2.2.2
def AtL (L : List Int) : Prop := L = [124] ∨ L = [38, 45]
theorem b50_plain (m : Nat) {e : List S81} {i : Nat} {c : Nat} {r : List S81} (h : At e i (pl c :: r)) (L : List Int) (acc : List (List S81)) (sgs : List Int) (from_ : Int) : B50 m e L (acc, sgs, from_, (i : Int)) = some (.nxt (acc, sgs, from_, ((i + 1 : Nat) : Int))) := by
 show f50_B6 m e L acc sgs from_ (i : Int) = _
 unfold f50_B6
 rw [decide_eq_true (by have := h.lt; omega), cnd_true, h.idx, bnd_some']
 show cnd true _ _ = _
 rw [cnd_true]
 unfold f50_j1
 rw [h.w]
theorem b50_open (m : Nat) {e : List S81} {i c k : Nat} {r : List S81} (h : At e i (sg c :: r)) (hc : c = 40 ∨ c = 91) (hk : f51 m e (i : Int) = some (k : Int)) (hk5 : k ≤ 100000) (L : List Int) (acc : List (List S81)) (sgs : List Int) (from_ : Int) : B50 m e L (acc, sgs, from_, (i : Int)) = some (.nxt (acc, sgs, from_, ((k + 1 : Nat) : Int))) := by
 have hwk : w64 ((k : Int) + 1) = ((k + 1 : Nat) : Int) := by rw [w64_id ⟨by omega, by omega⟩]; omega
 show f50_B6 m e L acc sgs from_ (i : Int) = _
 unfold f50_B6
 rw [decide_eq_true (by have := h.lt; omega), cnd_true, h.idx, bnd_some']
 show cnd false _ _ = _
 rw [cnd_false, bnd_some']
 have e1 : (cnd ((sg c).fPoint == 40) (some true) (bnd (some (sg c)) fun v254 => some (v254.fPoint == 91))) = some true := by
  rcases hc with rfl | rfl <;> rfl
 rw [e1, bnd_some']
 unfold f50_r5
 rw [cnd_true, hk, bnd_some']
 unfold f50_j1
 rw [hwk]
theorem b50_sign (m : Nat) (hm : 10 ≤ m) {e : List S81} {i c : Nat} {r : List S81} (h : At e i (sg c :: r)) (hc : c ≠ 40 ∧ c ≠ 91) {L : List Int} (hL : AtL L) (acc : List (List S81)) (sgs : List Int) (from_ : Nat) (hf : from_ ≤ i) (ha : acc.length ≤ 100000) (hs : sgs.length ≤ 100000) :
  B50 m e L (acc, sgs, (from_ : Int), (i : Int)) = some (.nxt (if (c : Int) ∈ L then (acc ++ [(e.drop from_).take (i - from_)], sgs ++ [(c : Int)], ((i + 1 : Nat) : Int), ((i + 1 : Nat) : Int)) else (acc, sgs, (from_ : Int), ((i + 1 : Nat) : Int)))) := by
 have hlt := h.lt
 have hsub : sub e (from_ : Int) (i : Int) = some ((e.drop from_).take (i - from_)) := by
  unfold sub
  rw [if_pos ⟨by omega, by omega, by omega⟩]
  simp
 show f50_B6 m e L acc sgs (from_ : Int) (i : Int) = _
 unfold f50_B6
 rw [decide_eq_true (by omega), cnd_true, h.idx, bnd_some']
 show cnd false _ _ = _
 rw [cnd_false, bnd_some']
 show (bnd (cnd ((c : Int) == 40) (some true) (bnd (some (sg c)) fun v254 => some (v254.fPoint == 91))) _) = _
 rw [show ((c : Int) == 40) = false from (eqN c 40).trans (decide_eq_false hc.1), cnd_false, bnd_some']
 show (bnd (some ((c : Int) == 91)) _) = _
 rw [show ((c : Int) == 91) = false from (eqN c 91).trans (decide_eq_false hc.2), bnd_some']
 unfold f50_r5
 rw [cnd_false]
 -- the signs one after the other
 have one : ∀ (k : Nat) (x : Int), L[k]? = some x → k ≤ 10 → ∀ (acc : List (List S81)) (sgs : List Int) (fr : Nat), fr ≤ i + 1 → acc.length ≤ 100001 → sgs.length ≤ 100001 → ((c : Int) = x → fr = from_) →
   f50_B4 m e L (i : Int) acc sgs (fr : Int) (k : Int) = some (.nxt (if (c : Int) = x then (acc ++ [(e.drop from_).take (i - from_)], sgs ++ [x], ((i + 1 : Nat) : Int), ((k + 1 : Nat) : Int)) else (acc, sgs, (fr : Int), ((k + 1 : Nat) : Int)))) := by
  intro k x hx hk acc sgs fr hfr ha hs hfx
  have hkl : k < L.length := by
   rcases Nat.lt_or_ge k L.length with g | g
   ·exact g
   ·rw [List.getElem?_eq_none g] at hx; cases hx
  have hwk : w64 ((k : Int) + 1) = ((k + 1 : Nat) : Int) := by rw [w64_id ⟨by omega, by omega⟩]; omega
  unfold f50_B4
  rw [decide_eq_true (by omega), cnd_true, show idx L (k : Int) = some x by simp [idx, hx], bnd_some', h.idx, bnd_some']
  show cnd ((c : Int) == x) _ _ = _
  by_cases hcx : (c : Int) = x
  ·rw [show ((c : Int) == x) = true by simpa using hcx, cnd_true, hfx hcx, hsub, bnd_some', app_some 24 acc _ (by simp; omega) (by simp; omega), bnd_some', app_some 8 sgs _ (by simp; omega) (by simp; omega), bnd_some', if_pos hcx]
   unfold f50_j3 f50_j2
   rw [h.w, hwk]
  ·rw [show ((c : Int) == x) = false by simpa using hcx, cnd_false, if_neg hcx]
   unfold f50_j3 f50_j2
   rw [hwk]
 have fin : ∀ (acc : List (List S81)) (sgs : List Int) (fr : Int) (M : Nat), iter (fun (y : (List (List S81)) × (List Int) × Int × Int) => f50_B4 m e L (i : Int) y.1 y.2.1 y.2.2.1 y.2.2.2) (M + 1) (acc, sgs, fr, (L.length : Int)) = some (.inr (acc, sgs, fr, (L.length : Int))) := by
  intro acc sgs fr M
  unfold iter
  dsimp only
  unfold f50_B4
  rw [decide_eq_false (by omega), cnd_false]
 rcases hL with rfl | rfl
 ·obtain ⟨M, rfl⟩ : ∃ M, m = M + 1 + 1 := ⟨m - 2, by omega⟩
  have s0 := one 0 124 rfl (by omega) acc sgs from_ (by omega) (by omega) (by omega) (fun _ => rfl)
  have s0 : f50_B4 (M + 1 + 1) e [124] (i : Int) acc sgs (from_ : Int) 0 = _ := s0
  have hit : iter (fun (y : (List (List S81)) × (List Int) × Int × Int) => f50_B4 (M + 1 + 1) e [124] (i : Int) y.1 y.2.1 y.2.2.1 y.2.2.2) (M + 1 + 1) (acc, sgs, (from_ : Int), 0) = some (.inr (if (c : Int) = 124 then (acc ++ [(e.drop from_).take (i - from_)], sgs ++ [124], ((i + 1 : Nat) : Int), 1) else (acc, sgs, (from_ : Int), 1))) := by
   conv => lhs; unfold iter
   dsimp only
   rw [s0]
   by_cases hcx : (c : Int) = 124
   ·rw [if_pos hcx, if_pos hcx]
    exact fin _ _ _ M
   ·rw [if_neg hcx, if_neg hcx]
    exact fin _ _ _ M
  rw [hit, brk_inr]
  by_cases hcx : (c : Int) = 124
  ·rw [if_pos hcx, if_pos (by simp [hcx])]
   unfold f50_j1
   rw [h.w, hcx]
  ·rw [if_neg hcx, if_neg (by simp [hcx])]
   unfold f50_j1
   rw [h.w]
 ·obtain ⟨M, rfl⟩ : ∃ M, m = M + 1 + 1 + 1 := ⟨m - 3, by omega⟩
  have s0 := one 0 38 rfl (by omega) acc sgs from_ (by omega) (by omega) (by omega) (fun _ => rfl)
  have s0 : f50_B4 (M + 1 + 1 + 1) e [38, 45] (i : Int) acc sgs (from_ : Int) 0 = _ := s0
  have hit : iter (fun (y : (List (List S81)) × (List Int) × Int × Int) => f50_B4 (M + 1 + 1 + 1) e [38, 45] (i : Int) y.1 y.2.1 y.2.2.1 y.2.2.2) (M + 1 + 1 + 1) (acc, sgs, (from_ : Int), 0) = some (.inr (if (c : Int) = 38 ∨ (c : Int) = 45 then (acc ++ [(e.drop from_).take (i - from_)], sgs ++ [(c : Int)], ((i + 1 : Nat) : Int), 2) else (acc, sgs, (from_ : Int), 2))) := by
   conv => lhs; unfold iter
   dsimp only
   rw [s0]
   by_cases hcx : (c : Int) = 38
   ·rw [if_pos hcx, if_pos (.inl hcx), hcx]
    have s1 := one 1 45 rfl (by omega) (acc ++ [(e.drop from_).take (i - from_)]) (sgs ++ [38]) (i + 1) (by omega) (by simp; omega) (by simp; omega) (fun g => by omega)
    rw [if_neg (by omega)] at s1
    show iter _ (M + 1 + 1) (acc ++ [(e.drop from_).take (i - from_)], sgs ++ [38], ((i + 1 : Nat) : Int), ((1 : Nat) : Int)) = _
    conv => lhs; unfold iter
    dsimp only
    rw [s1]
    exact fin _ _ _ M
   ·rw [if_neg hcx]
    have s1 := one 1 45 rfl (by omega) acc sgs from_ (by omega) (by omega) (by omega) (fun _ => rfl)
    show iter _ (M + 1 + 1) (acc, sgs, (from_ : Int), ((1 : Nat) : Int)) = _
    conv => lhs; unfold iter
    dsimp only
    rw [s1]
    by_cases hcy : (c : Int) = 45
    ·rw [if_pos hcy, if_pos (.inr hcy), hcy]
     exact fin _ _ _ M
    ·rw [if_neg hcy, if_neg (by omega)]
     exact fin _ _ _ M
  rw [hit, brk_inr]
  by_cases hcx : (c : Int) = 38 ∨ (c : Int) = 45
  ·rw [if_pos hcx, if_pos (by simpa using hcx)]
   unfold f50_j1
   rw [h.w]
  ·rw [if_neg hcx, if_neg (by simpa using hcx)]
   unfold f50_j1
   rw [h.w]
def PasS (m : Nat) (L : List Int) (x : List S81) : Prop := ∀ (e : List S81) (i : Nat) (rest : List S81), At e i (x ++ rest) → ∃ k, k ≤ x.length ∧ ∀ (M : Nat) (acc : List (List S81)) (sgs : List Int) (fr : Nat), fr ≤ i → acc.length ≤ 100000 → sgs.length ≤ 100000 →
 iter (B50 m e L) (M + k) (acc, sgs, (fr : Int), (i : Int)) = iter (B50 m e L) M (acc, sgs, (fr : Int), ((i + x.length : Nat) : Int))
theorem PasS.nil (m : Nat) (L : List Int) : PasS m L [] := fun e i rest h => ⟨0, Nat.le_refl _, fun M acc sgs fr _ _ _ => rfl⟩
theorem PasS.app {m : Nat} {L : List Int} {x y : List S81} (hx : PasS m L x) (hy : PasS m L y) : PasS m L (x ++ y) := by
 intro e i rest h
 rw [List.append_assoc] at h
 obtain ⟨k1, h1, g1⟩ := hx e i _ h
 obtain ⟨k2, h2, g2⟩ := hy e _ rest h.app
 refine ⟨k1 + k2, by rw [List.length_append]; omega, fun M acc sgs fr hf ha hs => ?_⟩
 rw [show M + (k1 + k2) = M + k2 + k1 by omega, g1 (M + k2) acc sgs fr hf ha hs, g2 M acc sgs fr (by omega) ha hs, List.length_append, Nat.add_assoc]
theorem PasS.plain (m : Nat) (L : List Int) (c : Nat) : PasS m L [pl c] := by
 intro e i rest h
 refine ⟨1, Nat.le_refl _, fun M acc sgs fr _ _ _ => ?_⟩
 conv => lhs; unfold iter
 rw [b50_plain m h L acc sgs fr]
 rfl
theorem PasS.sign {m : Nat} (hm : 10 ≤ m) {L : List Int} (hL : AtL L) {c : Nat} (hc : c ≠ 40 ∧ c ≠ 91) (hn : (c : Int) ∉ L) : PasS m L [sg c] := by
 intro e i rest h
 refine ⟨1, Nat.le_refl _, fun M acc sgs fr hf ha hs => ?_⟩
 conv => lhs; unfold iter
 rw [b50_sign m hm h hc hL acc sgs fr hf ha hs, if_neg hn]
 rfl
theorem PasS.all {m : Nat} (hm : 10 ≤ m) {L : List Int} (hL : AtL L) : ∀ {x : List S81}, (∀ y ∈ x, ∃ c : Nat, y = sg c ∧ (c ≠ 40 ∧ c ≠ 91) ∧ (c : Int) ∉ L) → PasS m L x
 | [], _ => PasS.nil m L
 | y :: r, h => by
  obtain ⟨c, rfl, h1, h2⟩ := h y List.mem_cons_self
  exact PasS.app (x := [sg c]) (PasS.sign hm hL h1 h2) (PasS.all hm hL fun z hz => h z (List.mem_cons_of_mem _ hz))
theorem PasS.par {m : Nat} (hm : 100000 ≤ m) (L : List Int) {x : List S81} (hx : Pas m x) : PasS m L (sg 40 :: (x ++ [sg 41])) := by
 intro e i rest h
 have h : At e i (sg 40 :: (x ++ (sg 41 :: rest))) := by simpa using h
 have hlen := h.len
 have h5 := h.2.2
 simp only [List.length_cons, List.length_append] at hlen
 refine ⟨1, by simp, fun M acc sgs fr _ _ _ => ?_⟩
 conv => lhs; unfold iter
 rw [b50_open m h (.inl rfl) (clo_paren m hm hx h) (by omega) L acc sgs fr]
 rw [show (sg 40 :: (x ++ [sg 41])).length = x.length + 2 by simp, show i + (x.length + 2) = i + x.length + 1 + 1 by omega]
theorem PasS.set {m : Nat} (hm : 100000 ≤ m) (L : List Int) (l : List Nat) : PasS m L (sg 91 :: (l.map pl ++ [sg 93])) := by
 intro e i rest h
 have h : At e i (sg 91 :: (l.map pl ++ (sg 93 :: rest))) := by simpa using h
 have hlen := h.len
 have h5 := h.2.2
 simp only [List.length_cons, List.length_append, List.length_map] at hlen
 refine ⟨1, by simp, fun M acc sgs fr _ _ _ => ?_⟩
 conv => lhs; unfold iter
 rw [b50_open m h (.inr rfl) (clo_set m hm h) (by omega) L acc sgs fr]
 rw [show (sg 91 :: (l.map pl ++ [sg 93])).length = l.length + 2 by simp, show i + (l.length + 2) = i + l.length + 1 + 1 by omega]
theorem Sh.pasS {m : Nat} (hm : 100000 ≤ m) {L : List Int} (hL : AtL L) {n : Nat} {x : List S81} {ps : List P24} (h : Sh n x ps) : (n ≤ 3 ∨ (n ≤ 4 ∧ L = [124])) → PasS m L x := by
 induction h with
 | chr c => intro _; exact PasS.plain m L c
 | emp => intro _; exact PasS.par hm L (Pas.nil m)
 | set l _ => intro _; exact PasS.set hm L l
 | par h _ => intro _; exact PasS.par hm L (h.pas m)
 | fac _ ih => intro _; exact ih (.inl (by omega))
 | rep _ ho ih =>
  intro _
  refine (ih (.inl (by omega))).app (PasS.all (by omega) hL fun y hy => ?_)
  obtain ⟨c, rfl, h1, h2, h3, h4, h5, h6⟩ := ho.flat y hy
  refine ⟨c, rfl, ⟨h1, h3⟩, ?_⟩
  rcases hL with rfl | rfl
  ·simp; omega
  ·simp; omega
 | row1 _ ih => intro _; exact ih (.inl (by omega))
 | rows _ _ ih ih' => intro _; exact (ih (.inl (by omega))).app (ih' (.inl (by omega)))
 | seq _ ih => intro _; exact ih (.inl (by omega))
 | one _ ih => intro _; exact ih (.inl (by omega))
 | both six _ _ ih ih' =>
  intro hh
  rcases hh with hh | ⟨_, rfl⟩
  ·omega
  ·exact (ih (.inr ⟨by omega, rfl⟩)).app ((PasS.sign (c := if six then 38 else 45) (by omega) hL (by cases six <;> decide) (by cases six <;> decide)).app (ih' (.inl (by omega))))
 | alt1 _ _ => intro hh; omega
 | alts _ _ _ _ => intro hh; omega
 | ei _ _ => intro hh; omega
theorem split_run (m : Nat) (hm : 100000 ≤ m) {L : List Int} (hL : AtL L) (e : List S81) : ∀ (ops : List (Nat × List S81)) (y : List S81) (fr : Nat) (acc : List (List S81)) (sgs : List Int), PasS m L y → (∀ o ∈ ops, PasS m L o.2 ∧ (o.1 : Int) ∈ L ∧ o.1 ≠ 40 ∧ o.1 ≠ 91) →
  At e fr (y ++ ops.flatMap fun o => sg o.1 :: o.2) → acc.length ≤ fr → sgs.length ≤ fr →
  ∃ (acc' : List (List S81)) (fl : Nat), (∀ M, e.length - fr < M → iter (B50 m e L) M (acc, sgs, (fr : Int), (fr : Int)) = some (.inr (acc', sgs ++ ops.map (fun o => (o.1 : Int)), (fl : Int), (e.length : Int)))) ∧ fl ≤ e.length ∧ acc'.length ≤ e.length ∧ acc' ++ [e.drop fl] = acc ++ y :: ops.map (·.2)
 | [], y, fr, acc, sgs, hy, _, h, ha, hs => by
  have h : At e fr (y ++ []) := h
  have hlen := h.len
  have h5 := h.2.2
  rw [List.append_nil] at hlen
  obtain ⟨k, hk, g⟩ := hy e fr [] h
  refine ⟨acc, fr, fun M hM => ?_, h.2.1, by have := h.2.1; omega, ?_⟩
  ·obtain ⟨M', rfl⟩ : ∃ M', M = M' + 1 + k := ⟨M - 1 - k, by omega⟩
   rw [g (M' + 1) acc sgs fr (Nat.le_refl _) (by omega) (by omega), hlen]
   have hB : B50 m e L (acc, sgs, (fr : Int), (e.length : Int)) = some (.brk (acc, sgs, (fr : Int), (e.length : Int))) := by
    show f50_B6 m e L acc sgs (fr : Int) (e.length : Int) = _
    unfold f50_B6
    rw [decide_eq_false (by omega), cnd_false]
   conv => lhs; unfold iter
   rw [hB]
   simp
  ·rw [h.1]
   simp
 | o :: ops, y, fr, acc, sgs, hy, ho, h, ha, hs => by
  have h : At e fr (y ++ (sg o.1 :: (o.2 ++ ops.flatMap fun o => sg o.1 :: o.2))) := h
  have hlen := h.len
  have h5 := h.2.2
  rw [List.length_append, List.length_cons] at hlen
  obtain ⟨k, hk, g⟩ := hy e fr _ h
  obtain ⟨o1, o2, o3⟩ := ho o List.mem_cons_self
  have hcut : (e.drop fr).take (fr + y.length - fr) = y := by
   rw [h.1, Nat.add_sub_cancel_left, List.take_left]
  have hb := b50_sign m (by omega) h.app o3 hL acc sgs fr (by omega) (by omega) (by omega)
  rw [if_pos o2, hcut] at hb
  obtain ⟨acc', fl, i1, i2, i3, i4⟩ := split_run m hm hL e ops o.2 (fr + y.length + 1) (acc ++ [y]) (sgs ++ [(o.1 : Int)]) o1 (fun z hz => ho z (List.mem_cons_of_mem _ hz)) h.app.next (by simp; omega) (by simp; omega)
  refine ⟨acc', fl, fun M hM => ?_, i2, i3, by rw [i4]; simp⟩
  obtain ⟨M', rfl⟩ : ∃ M', M = M' + 1 + k := ⟨M - 1 - k, by omega⟩
  rw [g (M' + 1) acc sgs fr (Nat.le_refl _) (by omega) (by omega)]
  conv => lhs; unfold iter
  rw [hb]
  refine (i1 M' (by omega)).trans ?_
  simp
theorem split_eq (m : Nat) (hm : 100000 ≤ m) {L : List Int} (hL : AtL L) (y : List S81) (ops : List (Nat × List S81)) (hy : PasS m L y) (ho : ∀ o ∈ ops, PasS m L o.2 ∧ (o.1 : Int) ∈ L ∧ o.1 ≠ 40 ∧ o.1 ≠ 91) {e : List S81} (he : e = y ++ ops.flatMap fun o => sg o.1 :: o.2) (h5 : e.length ≤ 5000) :
  f50 m e L = some (y :: ops.map (·.2), ops.map fun o => (o.1 : Int)) := by
 obtain ⟨acc', fl, i1, i2, i3, i4⟩ := split_run m hm hL e ops y 0 [] [] hy ho ⟨by rw [List.drop_zero]; exact he, Nat.zero_le _, h5⟩ (Nat.le_refl _) (Nat.le_refl _)
 unfold f50
 have h := i1 m (by omega)
 have h : iter (fun (y : (List (List S81)) × (List Int) × Int × Int) => f50_B6 m e L y.1 y.2.1 y.2.2.1 y.2.2.2) m ([], [], 0, 0) = some (.inr (acc', [] ++ ops.map (fun o => (o.1 : Int)), (fl : Int), (e.length : Int))) := h
 rw [h, brk_inr]
 have hsub : sub e (fl : Int) (e.length : Int) = some (e.drop fl) := by
  unfold sub
  rw [if_pos ⟨by omega, by omega, by omega⟩, Int.toNat_natCast, Int.toNat_natCast, List.take_of_length_le (by simp)]
 show (bnd (sub e (fl : Int) (e.length : Int)) fun v258 => _) = _
 rw [hsub, bnd_some']
 show (bnd (app 24 acc' [e.drop fl]) fun v259 => _) = _
 rw [app_some 24 acc' _ (by simp; omega) (by simp; omega), bnd_some', i4]
 rfl
end Go.Abs
