import Derived.Test.YtgbhimkbfaebeaaGreatDoorP1
import Derived.Test.YtgbhimkbfaebeaaGreatDoorP9
namespace Go.Abs.Lx
open Go.Lib
set_option linter.unusedVariables false
set_option linter.unusedSimpArgs false
set_option linter.unnecessarySimpa false
set_option maxRecDepth 100000
def isDg (c : UInt8) : Bool := decide (48 ≤ c.toNat ∧ c.toNat ≤ 57)
theorem isDg_iff {c : UInt8} : isDg c = true ↔ 48 ≤ c.toNat ∧ c.toNat ≤ 57 := by unfold isDg; rw [decide_eq_true_eq]
def val : Nat → List UInt8 → Nat
 | a, [] => a
 | a, c :: r => val (a * 10 + (c.toNat - 48)) r
theorem val_snoc : ∀ (l : List UInt8) (a : Nat) (c : UInt8), val a (l ++ [c]) = val a l * 10 + (c.toNat - 48)
 | [], a, c => rfl
 | b :: l, a, c => val_snoc l _ c
theorem val_acc : ∀ (l : List UInt8) (a : Nat), val a l = a * 10 ^ l.length + val 0 l
 | [], a => (Nat.mul_one a).symm
 | c :: l, a => by
  show val (a * 10 + (c.toNat - 48)) l = a * 10 ^ (l.length + 1) + val (0 * 10 + (c.toNat - 48)) l
  generalize c.toNat - 48 = k
  rw [val_acc l (a * 10 + k), val_acc l (0 * 10 + k), Nat.pow_succ, Nat.add_mul]
  generalize val 0 l = z
  generalize 10 ^ l.length = P
  rw [Nat.zero_mul, Nat.zero_add, Nat.mul_assoc, Nat.mul_comm 10 P, Nat.add_assoc]
theorem val_cons (c : UInt8) (l : List UInt8) : val 0 (c :: l) = (c.toNat - 48) * 10 ^ l.length + val 0 l := by
 show val (0 * 10 + (c.toNat - 48)) l = _
 rw [val_acc]
 simp
theorem val_lt : ∀ (l : List UInt8), l.all isDg = true → val 0 l < 10 ^ l.length
 | [], _ => Nat.one_pos
 | c :: l, h => by
  rw [List.all_cons, Bool.and_eq_true] at h
  have h1 := isDg_iff.1 h.1
  have h2 := val_lt l h.2
  rw [val_cons, List.length_cons, Nat.pow_succ]
  have : (c.toNat - 48) * 10 ^ l.length ≤ 9 * 10 ^ l.length := Nat.mul_le_mul_right _ (by omega)
  omega
theorem val_dec (u : Nat) : val 0 (decDigits u) = u := by
 induction u using Nat.strongRecOn with
 | _ u ih =>
  rw [decDigits]
  split
  ·rename_i h
   show 0 * 10 + ((UInt8.ofNat (48 + u)).toNat - 48) = u
   rw [digit_nat h]
   omega
  ·rename_i h
   rw [val_snoc, ih (u / 10) (by omega), digit_nat (by omega)]
   omega
theorem dec_dg (u : Nat) : (decDigits u).all isDg = true := List.all_eq_true.2 fun c hc => isDg_iff.2 (dec_digit u c hc)
theorem byte_of {c : UInt8} (h : 48 ≤ c.toNat) : UInt8.ofNat (48 + (c.toNat - 48)) = c := by
 rw [show 48 + (c.toNat - 48) = c.toNat by omega]
 exact UInt8.ofNat_toNat
theorem canon : ∀ (n : Nat) (l : List UInt8), l.length ≤ n → l ≠ [] → l.all isDg = true → (∀ c r, l = c :: r → c.toNat = 48 → r = []) → decDigits (val 0 l) = l
 | 0, l, hn, hne, _, _ => absurd (List.length_eq_zero_iff.1 (Nat.le_zero.1 hn)) hne
 | n + 1, l, hn, hne, hd, hz => by
  rcases List.eq_nil_or_concat l with rfl | ⟨l', c, rfl⟩
  ·exact absurd rfl hne
  ·rw [List.concat_eq_append] at *
   rw [List.all_append, Bool.and_eq_true] at hd
   have hc := isDg_iff.1 (by simpa using hd.2 : isDg c = true)
   cases l' with
   | nil =>
    show decDigits (0 * 10 + (c.toNat - 48)) = [c]
    rw [decDigits_one (by omega)]
    congr 1
    have := byte_of hc.1
    rw [show 0 * 10 + (c.toNat - 48) = c.toNat - 48 by omega]
    exact this
   | cons b r =>
    have hb : b.toNat ≠ 48 := fun h => by
     have := hz b (r ++ [c]) rfl h
     simp at this
    have ih := canon n (b :: r) (by rw [List.length_append] at hn; simp only [List.length_cons, List.length_nil] at hn ⊢; omega) (by simp) hd.1 (fun c' r' h h2 => by
     cases h; exact absurd h2 hb)
    have hbd := isDg_iff.1 (by have := hd.1; rw [List.all_cons, Bool.and_eq_true] at this; exact this.1 : isDg b = true)
    have hpos : 1 ≤ val 0 (b :: r) := by
     rw [val_cons]
     have : 1 * 1 ≤ (b.toNat - 48) * 10 ^ r.length := Nat.mul_le_mul (by omega) (Nat.one_le_pow _ _ (by omega))
     omega
    rw [val_snoc, decDigits.eq_1, dif_neg (by omega), show (val 0 (b :: r) * 10 + (c.toNat - 48)) / 10 = val 0 (b :: r) by omega, show (val 0 (b :: r) * 10 + (c.toNat - 48)) % 10 = c.toNat - 48 by omega, ih, byte_of hc.1]
theorem val_ge {b : UInt8} {r : List UInt8} (h : (b :: r).all isDg = true) (hb : b.toNat ≠ 48) : 10 ^ r.length ≤ val 0 (b :: r) := by
 rw [List.all_cons, Bool.and_eq_true] at h
 have := isDg_iff.1 h.1
 rw [val_cons]
 have : 1 * 10 ^ r.length ≤ (b.toNat - 48) * 10 ^ r.length := Nat.mul_le_mul_right _ (by omega)
 omega
theorem less_val : ∀ (a b : List UInt8), a.length = b.length → a.all isDg = true → b.all isDg = true → Op.bytesLess a b = decide (val 0 a < val 0 b)
 | [], [], _, _, _ => by simp [Op.bytesLess]
 | [], _ :: _, h, _, _ => by simp at h
 | _ :: _, [], h, _, _ => by simp at h
 | x :: a, y :: b, h, ha, hb => by
  simp only [List.length_cons, Nat.add_right_cancel_iff] at h
  rw [List.all_cons, Bool.and_eq_true] at ha hb
  have ih := less_val a b h ha.2 hb.2
  have hx := isDg_iff.1 ha.1
  have hy := isDg_iff.1 hb.1
  have la := val_lt a ha.2
  have lb := val_lt b hb.2
  rw [val_cons, val_cons, h]
  rw [h] at la
  show (decide (x < y) || (x == y && Op.bytesLess a b)) = _
  rw [ih]
  generalize 10 ^ b.length = P at la lb
  rcases Nat.lt_trichotomy x.toNat y.toNat with hlt | heq | hgt
  ·have e : decide (x < y) = true := decide_eq_true (UInt8.lt_iff_toNat_lt.2 hlt)
   have : (x.toNat - 48 + 1) * P ≤ (y.toNat - 48) * P := Nat.mul_le_mul_right _ (by omega)
   rw [Nat.add_mul] at this
   rw [e, Bool.true_or, eq_comm, decide_eq_true_eq]
   omega
  ·have e : x = y := UInt8.toNat_inj.1 heq
   subst e
   have e2 : decide (x < x) = false := decide_eq_false (fun h => by have := UInt8.lt_iff_toNat_lt.1 h; omega)
   rw [e2, Bool.false_or, beq_self_eq_true, Bool.true_and]
   congr 1
   rw [eq_iff_iff]
   omega
  ·have e2 : decide (x < y) = false := decide_eq_false (fun h => by have := UInt8.lt_iff_toNat_lt.1 h; omega)
   have e3 : (x == y) = false := by rw [beq_eq_false_iff_ne]; intro h; subst h; omega
   have : (y.toNat - 48 + 1) * P ≤ (x.toNat - 48) * P := Nat.mul_le_mul_right _ (by omega)
   rw [Nat.add_mul] at this
   rw [e2, e3, Bool.false_and, Bool.false_or, eq_comm, decide_eq_false_iff_not]
   omega
def cap : Nat → List UInt8 → Nat
 | a, [] => a
 | a, c :: r => cap (if a ≤ 1000000 then 10 * a + (c.toNat - 48) else a) r
theorem cap_big : ∀ (l : List UInt8) (a : Nat), 1000000 < a → cap a l = a
 | [], a, _ => rfl
 | c :: r, a, h => by
  show cap (if a ≤ 1000000 then _ else a) r = a
  rw [if_neg (by omega)]
  exact cap_big r a h
theorem val_big : ∀ (l : List UInt8) (a : Nat), 1000000 < a → 1000000 < val a l
 | [], a, h => h
 | c :: r, a, h => val_big r _ (by omega)
theorem cap_val : ∀ (l : List UInt8) (a : Nat), cap a l = val a l ∨ (1000000 < cap a l ∧ 1000000 < val a l)
 | [], a => .inl rfl
 | c :: r, a => by
  show cap (if a ≤ 1000000 then _ else a) r = val (a * 10 + (c.toNat - 48)) r ∨ (1000000 < cap (if a ≤ 1000000 then _ else a) r ∧ 1000000 < val (a * 10 + (c.toNat - 48)) r)
  split
  ·rw [Nat.mul_comm]
   exact cap_val r _
  ·exact .inr ⟨by rw [cap_big r a (by omega)]; omega, val_big r _ (by omega)⟩
theorem cap_le : ∀ (l : List UInt8) (a : Nat), l.all isDg = true → a ≤ 10000009 → cap a l ≤ 10000009
 | [], a, _, h => h
 | c :: r, a, hd, h => by
  rw [List.all_cons, Bool.and_eq_true] at hd
  have := isDg_iff.1 hd.1
  exact cap_le r _ hd.2 (by split <;> omega)
abbrev lit19 : List UInt8 := [57, 50, 50, 51, 51, 55, 50, 48, 51, 54, 56, 53, 52, 55, 55, 53, 56, 48, 56]
theorem lit_val : val 0 lit19 = 9223372036854775808 := by decide +kernel
theorem lit_dg : lit19.all isDg = true := by decide +kernel
def bigD (d : List UInt8) (neg : Bool) : Bool := decide (19 < d.length) || (d.length == 19 && ((!(Op.bytesLess d lit19 || d == lit19)) || (d == lit19 && !neg)))
def negL (l : List UInt8) : Bool := match l with
 | c :: _ => c.toNat == 45
 | [] => false
def digL (l : List UInt8) : List UInt8 := if negL l then l.tail else l
def zeroL (l : List UInt8) : Bool := match digL l with
 | [] => true
 | c :: _ => c.toNat == 48 && decide (1 < l.length)
def smallS (l : List UInt8) : Int × Bool :=
 if zeroL l then (0, false) else if !(digL l).all isDg then (0, false) else if bigD (digL l) (negL l) then (0, false) else (if negL l then -((cap 0 (digL l) : Nat) : Int) else ((cap 0 (digL l) : Nat) : Int), true)
theorem big_val {d : List UInt8} (hd : d.all isDg = true) (hz : ∀ c r, d = c :: r → c.toNat = 48 → r = []) (neg : Bool) : bigD d neg = decide ((if neg then 9223372036854775808 else 9223372036854775807) < val 0 d) := by
 have hlt := val_lt d hd
 unfold bigD
 by_cases h1 : d.length ≤ 18
 ·rw [decide_eq_false (by omega), Bool.false_or, show (d.length == 19) = false by rw [beq_eq_false_iff_ne]; omega, Bool.false_and, eq_comm, decide_eq_false_iff_not]
  have : 10 ^ d.length ≤ 10 ^ 18 := Nat.pow_le_pow_right (by omega) h1
  split <;> omega
 ·by_cases h2 : d.length = 19
  ·have hl := less_val d lit19 (by rw [h2]; rfl) hd lit_dg
   rw [lit_val] at hl
   have he : (d == lit19) = decide (val 0 d = 9223372036854775808) := by
    by_cases h : d = lit19
    ·rw [h, lit_val]; decide
    ·rw [show (d == lit19) = false by rw [beq_eq_false_iff_ne]; exact h, eq_comm, decide_eq_false_iff_not]
     intro hv
     apply h
     have e1 := canon 19 d (by omega) (by intro h; rw [h] at h2; simp at h2) hd hz
     have e2 := canon 19 lit19 (by decide) (by simp) lit_dg (fun c r h h3 => by cases h; simp at h3)
     rw [← e1, hv, ← lit_val, e2]
   rw [hl, he, h2]
   cases neg with
   | true =>
    simp only [Nat.lt_irrefl, decide_false, beq_self_eq_true, Bool.true_and, Bool.false_or, Bool.not_true, Bool.and_false, Bool.or_false, if_true]
    by_cases g1 : val 0 d < 9223372036854775808
    ·rw [decide_eq_true g1, Bool.true_or, eq_comm]; simp; omega
    ·by_cases g2 : val 0 d = 9223372036854775808
     ·rw [decide_eq_true g2, Bool.or_true, eq_comm]; simp; omega
     ·rw [decide_eq_false g1, decide_eq_false g2, eq_comm]; simp; omega
   | false =>
    simp only [Nat.lt_irrefl, decide_false, beq_self_eq_true, Bool.true_and, Bool.false_or, Bool.not_false, Bool.and_true]
    rw [if_neg (by simp)]
    by_cases g1 : val 0 d < 9223372036854775808
    ·rw [decide_eq_true g1, Bool.true_or, decide_eq_false (by omega : ¬ val 0 d = 9223372036854775808), eq_comm]; simp; omega
    ·by_cases g2 : val 0 d = 9223372036854775808
     ·rw [decide_eq_true g2, Bool.or_true, eq_comm]; simp; omega
     ·rw [decide_eq_false g1, decide_eq_false g2, eq_comm]; simp; omega
  ·rw [decide_eq_true (by omega), Bool.true_or, eq_comm, decide_eq_true_eq]
   cases d with
   | nil => simp at h1
   | cons b r =>
    have hb : b.toNat ≠ 48 := fun h => by have := hz b r rfl h; subst this; simp at h1
    have := val_ge hd hb
    have h3 : 10 ^ 19 ≤ 10 ^ r.length := Nat.pow_le_pow_right (by omega) (by simp only [List.length_cons] at h1 h2; omega)
    split <;> omega
def numR (a b : Int) : Prop := a = b ∨ ((a < -1 ∨ 1000000 < a) ∧ (b < -1 ∨ 1000000 < b))
theorem zero_digs {l : List UInt8} (h : zeroL l = false) (hn : negL l = true → 2 ≤ l.length) : digL l ≠ [] ∧ ∀ c r, digL l = c :: r → c.toNat = 48 → r = [] := by
 unfold zeroL at h
 split at h
 ·cases h
 ·rename_i c r hc
  refine ⟨by rw [hc]; simp, fun c' r' h1 h2 => ?_⟩
  rw [hc] at h1
  cases h1
  have hl : l.length ≤ 1 := by simpa [h2] using h
  unfold digL at hc
  split at hc
  ·rename_i hneg
   have := hn hneg
   omega
  ·rw [hc] at hl
   simpa using hl
theorem neg_len {l : List UInt8} (h : zeroL l = false) (hn : negL l = true) : 2 ≤ l.length := by
 unfold zeroL digL at h
 rw [if_pos hn] at h
 cases l with
 | nil => cases hn
 | cons c r =>
  cases r with
  | nil => simp at h
  | cons d r => simp
theorem neg_cons {l : List UInt8} (h : negL l = true) : l = 45 :: digL l := by
 unfold digL
 rw [if_pos h]
 cases l with
 | nil => cases h
 | cons c r =>
  have : c.toNat = 45 := by simpa [negL] using h
  have hc : c = 45 := UInt8.toNat_inj.1 this
  rw [hc]; rfl
theorem small_ok {l : List UInt8} {n : Int} (h : smallS l = (n, true)) : ∃ v : Int, (-9223372036854775808 ≤ v ∧ v ≤ 9223372036854775807) ∧ l = itoa v ∧ numR v n := by
 unfold smallS at h
 split at h
 ·cases h
 rename_i hz
 have hz : zeroL l = false := by simpa using hz
 split at h
 ·cases h
 rename_i hd
 have hd : (digL l).all isDg = true := by simpa using hd
 split at h
 ·cases h
 rename_i hb
 have hb : bigD (digL l) (negL l) = false := by simpa using hb
 obtain ⟨hne, hzz⟩ := zero_digs hz (neg_len hz)
 rw [big_val hd hzz] at hb
 have hb := of_decide_eq_false hb
 have hcan := canon _ (digL l) (Nat.le_refl _) hne hd hzz
 have hcv := cap_val (digL l) 0
 simp only [Prod.mk.injEq, and_true] at h
 subst h
 by_cases hn : negL l = true
 ·rw [if_pos hn] at hb ⊢
  have hl := neg_cons hn
  have hpos : 1 ≤ val 0 (digL l) := by
   rcases Nat.eq_zero_or_pos (val 0 (digL l)) with h0 | h0
   ·exfalso
    rw [h0, decDigits_one (by omega)] at hcan
    have h2 := neg_len hz hn
    unfold zeroL at hz
    rw [← hcan] at hz
    simp only [Bool.and_eq_false_iff] at hz
    rcases hz with hz | hz
    ·exact absurd hz (by decide)
    ·rw [decide_eq_false_iff_not] at hz; omega
   ·exact h0
  refine ⟨-((val 0 (digL l) : Nat) : Int), ⟨by omega, by omega⟩, ?_, ?_⟩
  ·rw [itoa_neg _ hpos, hcan]; exact hl
  ·rcases hcv with h | ⟨h1, h2⟩
   ·exact .inl (by rw [h])
   ·exact .inr ⟨.inl (by omega), .inl (by omega)⟩
 ·rw [if_neg hn] at hb ⊢
  refine ⟨((val 0 (digL l) : Nat) : Int), ⟨by omega, by omega⟩, ?_, ?_⟩
  ·rw [itoa_nonneg, hcan]; unfold digL; rw [if_neg hn]
  ·rcases hcv with h | ⟨h1, h2⟩
   ·exact .inl (by rw [h])
   ·exact .inr ⟨.inr (by omega), .inr (by omega)⟩
theorem dec_head (u : Nat) : ∃ c r, decDigits u = c :: r ∧ 48 ≤ c.toNat ∧ c.toNat ≤ 57 ∧ (c.toNat = 48 → r = []) := by
 cases h : decDigits u with
 | nil => exact absurd h (dec_ne u)
 | cons c r =>
  have h1 := dec_digit u c (by rw [h]; exact List.mem_cons_self)
  refine ⟨c, r, rfl, h1.1, h1.2, fun h48 => ?_⟩
  have hv := val_dec u
  rw [h, val_cons, h48] at hv
  have hd := dec_dg u
  rw [h, List.all_cons, Bool.and_eq_true] at hd
  have hlt := val_lt r hd.2
  by_cases hu : u < 10
  ·rw [decDigits_one hu] at h
   cases h; rfl
  ·have hr : r ≠ [] := by
    intro hr
    subst hr
    have hv : (48 - 48) * 10 ^ 0 + 0 = u := hv
    omega
   exfalso
   have key : ∀ u, 10 ^ ((decDigits u).length - 1) ≤ u ∨ u = 0 := by
    intro u
    induction u using Nat.strongRecOn with
    | _ u ih =>
     rw [decDigits]
     split
     ·rename_i h; simp; omega
     ·rename_i h
      rcases ih (u / 10) (by omega) with g | g
      ·left
       rw [List.length_append]
       simp only [List.length_cons, List.length_nil, Nat.add_sub_cancel]
       have hne := dec_ne (u / 10)
       obtain ⟨k, hk⟩ : ∃ k, (decDigits (u / 10)).length = k + 1 := ⟨(decDigits (u / 10)).length - 1, by have := List.length_pos_iff.2 hne; omega⟩
       rw [hk] at g ⊢
       simp only [Nat.add_sub_cancel] at g ⊢
       rw [Nat.pow_succ]
       omega
      ·omega
   rcases key u with g | g
   ·rw [h] at g
    simp only [List.length_cons, Nat.add_sub_cancel] at g
    omega
   ·omega
theorem small_itoa {v : Int} (h : -9223372036854775808 ≤ v ∧ v ≤ 9223372036854775807) : ∃ n, smallS (itoa v) = (n, true) ∧ numR v n := by
 have fin : ∀ (l d : List UInt8) (u : Nat) (neg : Bool), d = decDigits u → digL l = d → negL l = neg → zeroL l = false → u ≤ (if neg then 9223372036854775808 else 9223372036854775807) → v = (if neg then -(u : Int) else (u : Int)) → ∃ n, smallS l = (n, true) ∧ numR v n := by
  intro l d u neg h1 h2 h3 h4 h5 h6
  subst h1
  have hzz : ∀ c r, decDigits u = c :: r → c.toNat = 48 → r = [] := fun c r h1 h2 => by
   obtain ⟨c', r', g1, _, _, g2⟩ := dec_head u
   rw [g1] at h1
   cases h1
   exact g2 h2
  have hbv : bigD (decDigits u) neg = false := by
   rw [big_val (dec_dg u) hzz, val_dec, decide_eq_false_iff_not]
   omega
  refine ⟨if neg then -((cap 0 (decDigits u) : Nat) : Int) else ((cap 0 (decDigits u) : Nat) : Int), ?_, ?_⟩
  ·unfold smallS
   rw [h2, h3, h4, dec_dg, hbv]
   simp
  ·have hcv := cap_val (decDigits u) 0
   rw [val_dec] at hcv
   subst h6
   rcases hcv with h | ⟨g1, g2⟩
   ·rw [h]; exact .inl rfl
   ·cases neg with
    | true => exact .inr ⟨.inl (by simp only [if_true]; omega), .inl (by simp only [if_true]; omega)⟩
    | false => exact .inr ⟨.inr (by simp only [Bool.false_eq_true, if_false]; omega), .inr (by simp only [Bool.false_eq_true, if_false]; omega)⟩
 by_cases hv : v < 0
 ·obtain ⟨u, rfl⟩ : ∃ u : Nat, v = -(u : Int) := ⟨v.natAbs, by omega⟩
  obtain ⟨c, r, hc, h1, h2, h3⟩ := dec_head u
  rw [itoa_neg u (by omega)]
  refine fin (45 :: decDigits u) (decDigits u) u true rfl rfl rfl ?_ (by simp only [if_true]; omega) rfl
  unfold zeroL
  rw [show digL (45 :: decDigits u) = decDigits u from rfl, hc]
  simp only [Bool.and_eq_false_iff]
  left
  rw [beq_eq_false_iff_ne]
  intro h48
  have hr := h3 h48
  subst hr
  have hvd := val_dec u
  rw [hc, val_cons, h48] at hvd
  have hvd : (48 - 48) * 10 ^ 0 + 0 = u := hvd
  omega
 ·obtain ⟨u, rfl⟩ : ∃ u : Nat, v = (u : Int) := ⟨v.toNat, by omega⟩
  obtain ⟨c, r, hc, h1, h2, h3⟩ := dec_head u
  rw [itoa_nonneg]
  have hn : negL (decDigits u) = false := by rw [hc]; simp [negL]; omega
  have hd : digL (decDigits u) = decDigits u := by unfold digL; rw [hn]; rfl
  refine fin (decDigits u) (decDigits u) u false rfl hd hn ?_ (by simp only [Bool.false_eq_true, if_false]; omega) rfl
  unfold zeroL
  rw [hd, hc]
  simp only [Bool.and_eq_false_iff]
  by_cases h48 : c.toNat = 48
  ·right
   rw [h3 h48]
   rfl
  ·left
   rw [beq_eq_false_iff_ne]; exact h48
theorem L_ext (s : ByteArray) (i j : Nat) : L (s.extract i j) = ((L s).drop i).take (j - i) := by
 show (s.extract i j).data.toList = _
 rw [ByteArray.data_extract, Array.toList_extract, List.extract_eq_take_drop]
theorem tl_L (s : ByteArray) : s.toList = L s := Lib.toList_data s
theorem B_beq (a b : ByteArray) : (a.toList == b.toList) = decide (L a = L b) := by
 rw [tl_L, tl_L]
 by_cases h : L a = L b
 ·rw [h]; simp
 ·rw [decide_eq_false h, beq_eq_false_iff_ne]; exact h
theorem ssubB {l : List UInt8} {i j : Nat} (h1 : i ≤ j) (h2 : j ≤ l.length) : ssub (B l) (i : Int) (j : Int) = some (B ((l.drop i).take (j - i))) := by
 unfold ssub
 rw [if_pos ⟨by omega, by omega, by rw [B_size]; omega⟩]
 congr 1
 exact L_inj (by rw [L_ext]; rfl)
theorem ssubB0 {l : List UInt8} {j : Nat} (h2 : j ≤ l.length) : ssub (B l) 0 (j : Int) = some (B (l.take j)) := by
 have := ssubB (l := l) (i := 0) (j := j) (Nat.zero_le _) h2
 rw [List.drop_zero, Nat.sub_zero] at this
 exact this
theorem pfx_take (p x : List UInt8) : p.isPrefixOf x = decide (x.take p.length = p) := by
 by_cases h : x.take p.length = p
 ·rw [decide_eq_true h]
  exact List.isPrefixOf_iff_prefix.2 (List.prefix_iff_eq_take.2 h.symm)
 ·rw [decide_eq_false h, Bool.eq_false_iff]
  intro h2
  exact h (List.prefix_iff_eq_take.1 (List.isPrefixOf_iff_prefix.1 h2)).symm
theorem index_short : ∀ {l p : List UInt8}, l.length < p.length → index l p = -1
 | [], p, h => by
  cases p with
  | nil => simp at h
  | cons a t => rfl
 | b :: l, p, h => by
  have e : p.isPrefixOf (b :: l) = false := by
   rw [pfx_take, decide_eq_false_iff_not]
   intro h2
   have := congrArg List.length h2
   rw [List.length_take] at this
   omega
  have ih : index l p = -1 := index_short (by simp only [List.length_cons] at h; omega)
  unfold index
  rw [e, ih]
  rfl
theorem index_room : ∀ (l p : List UInt8), index l p = -1 ∨ (0 ≤ index l p ∧ index l p + p.length ≤ l.length)
 | [], p => by
  cases p with
  | nil => exact .inr ⟨by decide, by decide⟩
  | cons a t => exact .inl rfl
 | b :: l, p => by
  unfold index
  split
  ·rename_i h
   have h2 := (List.isPrefixOf_iff_prefix.1 h).length_le
   exact .inr ⟨Int.le_refl _, by omega⟩
  ·split
   ·exact .inl rfl
   ·rename_i h
    rcases index_room l p with g | ⟨g1, g2⟩
    ·rw [g] at h; exact absurd rfl h
    ·exact .inr ⟨by omega, by simp only [List.length_cons]; omega⟩
theorem index_nat {l p : List UInt8} (h : index l p ≠ -1) : ∃ k : Nat, index l p = k ∧ k + p.length ≤ l.length := by
 rcases index_room l p with g | ⟨g1, g2⟩
 ·exact absurd g h
 ·exact ⟨(index l p).toNat, by omega, by omega⟩
theorem index_step {x y : List UInt8} {b : UInt8} (h : x = b :: y) (p : List UInt8) : index x p = if p.isPrefixOf x then 0 else if index y p == -1 then -1 else index y p + 1 := by
 subst h
 rw [index]
def behindL (l p : List UInt8) (a : Nat) : Int := if index (l.drop a) p = -1 then -1 else (a : Int) + index (l.drop a) p
theorem behind_loop (m : Nat) (l p : List UInt8) (hp : 1 ≤ p.length) (hpp : p.length ≤ 100) (hl : l.length ≤ 4000) : ∀ (K i : Nat), i ≤ l.length → l.length - i < K →
  (index (l.drop i) p = -1 → ∃ j, iter (fun (y : Int) => f31_B1 m (B l) (B p) y) K (i : Int) = some (.inr j)) ∧ (∀ k : Nat, index (l.drop i) p = k → iter (fun (y : Int) => f31_B1 m (B l) (B p) y) K (i : Int) = some (.inl ((i : Int) + k)))
 | 0, i, h1, h2 => by omega
 | K + 1, i, h1, h2 => by
  by_cases hfit : i + p.length ≤ l.length
  ·have hw : w64 ((i : Int) + ((B p).size : Int)) = ((i + p.length : Nat) : Int) := by rw [B_size, w64_id ⟨by omega, by omega⟩]; omega
   have hlt : i < l.length := by omega
   have hd : l.drop i = l[i] :: l.drop (i + 1) := List.drop_eq_getElem_cons hlt
   have ih := behind_loop m l p hp hpp hl K (i + 1) hlt (by omega)
   have hpf : p.isPrefixOf (l.drop i) = decide ((l.drop i).take (i + p.length - i) = p) := by rw [pfx_take]; congr 3; omega
   have e : f31_B1 m (B l) (B p) (i : Int) = if p.isPrefixOf (l.drop i) then some (.ret (i : Int)) else some (.nxt ((i + 1 : Nat) : Int)) := by
    unfold f31_B1
    rw [hw, decide_eq_true (by rw [B_size]; omega), cnd_true, ssubB (by omega) hfit, bnd_some', B_beq, L_B, L_B, ← hpf, w64_nat i (by omega)]
    cases p.isPrefixOf (l.drop i) <;> rfl
   have hix := index_step hd p
   by_cases hpx : p.isPrefixOf (l.drop i) = true
   ·rw [if_pos hpx] at hix e
    refine ⟨fun h => by omega, fun k hk => ?_⟩
    have : k = 0 := by omega
    subst this
    unfold iter
    simp only [e]
    simp
   ·rw [if_neg hpx] at hix e
    refine ⟨fun h => ?_, fun k hk => ?_⟩
    ·unfold iter
     simp only [e]
     refine ih.1 ?_
     rcases index_room (l.drop (i + 1)) p with g | ⟨g1, g2⟩
     ·exact g
     ·rw [if_neg (by rw [beq_iff_eq]; omega)] at hix
      omega
    ·unfold iter
     simp only [e]
     rcases index_room (l.drop (i + 1)) p with g | ⟨g1, g2⟩
     ·rw [if_pos (by rw [beq_iff_eq]; exact g)] at hix
      omega
     ·rw [if_neg (by rw [beq_iff_eq]; omega)] at hix
      rw [ih.2 (index (l.drop (i + 1)) p).toNat (by omega)]
      congr 2
      omega
  ·have hs : index (l.drop i) p = -1 := index_short (by rw [List.length_drop]; omega)
   have e : f31_B1 m (B l) (B p) (i : Int) = some (.brk (i : Int)) := by
    unfold f31_B1
    rw [B_size, B_size, w64_id ⟨by omega, by omega⟩, decide_eq_false (by omega), cnd_false]
   refine ⟨fun _ => ⟨(i : Int), ?_⟩, fun k hk => by rw [hs] at hk; omega⟩
   unfold iter
   simp only [e]
theorem behind_eq (m : Nat) (hm : 4001 < m) (l p : List UInt8) (hp : 1 ≤ p.length) (hpp : p.length ≤ 100) (hl : l.length ≤ 4000) (a : Nat) (ha : a ≤ l.length) : f31 m (B l) (a : Int) (B p) = some (behindL l p a) := by
 have h := behind_loop m l p hp hpp hl m a ha (by omega)
 unfold f31 behindL
 rcases index_room (l.drop a) p with g | ⟨g1, g2⟩
 ·obtain ⟨j, hj⟩ := h.1 g
  rw [hj, if_pos g]
  rfl
 ·rw [h.2 (index (l.drop a) p).toNat (by omega), if_neg (by omega)]
  show some ((a : Int) + _) = _
  congr 2
  omega
def pcs (c : UInt8) : Nat → List UInt8 → List (List UInt8)
 | 0, t => [t]
 | K + 1, t => if index t [c] = -1 then [t] else t.take (index t [c]).toNat :: pcs c K (t.drop ((index t [c]).toNat + 1))
theorem pcs_none {c : UInt8} {t : List UInt8} (h : index t [c] = -1) (K : Nat) : pcs c K t = [t] := by
 cases K with
 | zero => rfl
 | succ K => unfold pcs; rw [if_pos h]
theorem pcs_nil (c : UInt8) (K : Nat) : pcs c K [] = [[]] := pcs_none rfl K
theorem pcs_fuel (c : UInt8) : ∀ (K K' : Nat) (t : List UInt8), t.length ≤ K → t.length ≤ K' → pcs c K t = pcs c K' t
 | 0, K', t, h, _ => by
  rw [List.length_eq_zero_iff.1 (Nat.le_zero.1 h), pcs_nil, pcs_nil]
 | K + 1, 0, t, _, h => by
  rw [List.length_eq_zero_iff.1 (Nat.le_zero.1 h), pcs_nil, pcs_nil]
 | K + 1, K' + 1, t, h, h' => by
  unfold pcs
  split
  ·rfl
  ·rw [pcs_fuel c K K' _ (by rw [List.length_drop]; omega) (by rw [List.length_drop]; omega)]
theorem pcs_ne (c : UInt8) (K : Nat) (t : List UInt8) : pcs c K t ≠ [] := by
 cases K with
 | zero => simp [pcs]
 | succ K => unfold pcs; split <;> simp
theorem pcs_split (c : UInt8) : ∀ (K f : Nat) (t : List UInt8), t.length ≤ K → t.length < f → splitK [c] 0 (countFrom [c] f t) t = pcs c K t ∧ (pcs c K t).length = countFrom [c] f t + 1
 | K, 0, t, _, h => by omega
 | K, f + 1, t, hK, hf => by
  by_cases h : index t [c] = -1
  ·have e : countFrom [c] (f + 1) t = 0 := by unfold countFrom; rw [h]; rfl
   rw [e, pcs_none h]
   exact ⟨rfl, rfl⟩
  ·obtain ⟨k, hk, hkl⟩ := index_nat h
   simp only [List.length_cons, List.length_nil] at hkl
   obtain ⟨K, rfl⟩ : ∃ q, K = q + 1 := ⟨K - 1, by omega⟩
   have hb : (index t [c] == -1) = false := by rw [beq_eq_false_iff_ne]; exact h
   have e : countFrom [c] (f + 1) t = countFrom [c] f (t.drop (k + 1)) + 1 := by
    show (if index t [c] == -1 then 0 else 1 + countFrom [c] f (t.drop ((index t [c]).toNat + [c].length))) = _
    rw [hb, hk, Nat.add_comm]
    rfl
   have ih := pcs_split c K f (t.drop (k + 1)) (by rw [List.length_drop]; omega) (by rw [List.length_drop]; omega)
   rw [e]
   have e2 : pcs c (K + 1) t = t.take k :: pcs c K (t.drop (k + 1)) := by
    show (if index t [c] = -1 then [t] else t.take (index t [c]).toNat :: pcs c K (t.drop ((index t [c]).toNat + 1))) = _
    rw [if_neg h, hk]; rfl
   have e3 : splitK [c] 0 (countFrom [c] f (t.drop (k + 1)) + 1) t = t.take k :: splitK [c] 0 (countFrom [c] f (t.drop (k + 1))) (t.drop (k + 1)) := by
    show (if index t [c] == -1 then [t] else t.take ((index t [c]).toNat + 0) :: splitK [c] 0 _ (t.drop ((index t [c]).toNat + [c].length))) = _
    rw [hb, hk]; rfl
   rw [e2, e3, ih.1]
   exact ⟨rfl, by rw [List.length_cons, ih.2]⟩
theorem splitQ_pcs (c : UInt8) (t : List UInt8) (h : t.length ≤ 4000) (K : Nat) (hK : t.length ≤ K) : splitQ (B t) (B [c]) = some ((pcs c K t).map B) := by
 have hsp := pcs_split c K (t.length + 1) t hK (by omega)
 have hk : countB (B t) (B [c]) = countFrom [c] (t.length + 1) t := rfl
 have hle : ∀ (f : Nat) (t : List UInt8), countFrom [c] f t ≤ t.length := by
  intro f
  induction f with
  | zero => intro t; exact Nat.zero_le _
  | succ f ih =>
   intro t
   unfold countFrom
   split
   ·exact Nat.zero_le _
   ·rename_i hne
    obtain ⟨k, hk, hkl⟩ := index_nat (l := t) (p := [c]) (by simpa using hne)
    have := ih (t.drop ((index t [c]).toNat + [c].length))
    have h1 : [c].length = 1 := rfl
    rw [List.length_drop, h1] at this
    rw [h1] at hkl ⊢
    omega
 have hc := hle (t.length + 1) t
 have hm : (splitS (B t) (B [c])).map L = pcs c K t := by
  unfold splitS
  rw [hk]
  exact (splitB_data (B [c]) 0 _ (B t)).trans hsp.1
 have he : splitS (B t) (B [c]) = (pcs c K t).map B := by
  have h2 := congrArg (List.map B) hm
  rw [List.map_map] at h2
  rw [← h2]
  exact ((List.map_congr_left fun x _ => B_L x).trans (List.map_id _)).symm
 unfold splitQ
 rw [hk, he, if_pos ⟨by rw [B_size]; omega, by rw [B_size]; simp, by rw [List.length_map]; exact hsp.2, by unfold maxLen; omega⟩]
theorem cutQ_ix (l p : List UInt8) (h : l.length ≤ 4000) : cutQ (B l) (B p) = some (if index l p = -1 then (B l, B [], false) else (B (l.take (index l p).toNat), B (l.drop ((index l p).toNat + p.length)), true)) := by
 unfold cutQ
 rw [if_pos (by rw [B_size]; omega)]
 unfold cutS3
 show some ((⟨(Lib.cut l p).1.toArray⟩ : ByteArray), (⟨(Lib.cut l p).2.1.toArray⟩ : ByteArray), (Lib.cut l p).2.2) = _
 unfold Lib.cut
 rcases index_room l p with g | ⟨g1, g2⟩
 ·rw [if_neg (by omega), if_pos g]; rfl
 ·rw [if_pos g1, if_neg (by omega)]; rfl
structure Cut5 where
 base : List UInt8
 form : List UInt8
 tags : List UInt8
 next : List UInt8
 wt : List UInt8
def cut5 (r : List UInt8) : Option Cut5 :=
 if index r [41, 40] = -1 then none else
  if index (r.drop ((index r [41, 40]).toNat + 2)) [41, 91] = -1 then none else
   if index ((r.drop ((index r [41, 40]).toNat + 2)).drop ((index (r.drop ((index r [41, 40]).toNat + 2)) [41, 91]).toNat + 2)) [93, 32] = -1 then none else
    if index (((r.drop ((index r [41, 40]).toNat + 2)).drop ((index (r.drop ((index r [41, 40]).toNat + 2)) [41, 91]).toNat + 2)).drop ((index ((r.drop ((index r [41, 40]).toNat + 2)).drop ((index (r.drop ((index r [41, 40]).toNat + 2)) [41, 91]).toNat + 2)) [93, 32]).toNat + 2)) [32] = -1 then none else
     some ⟨r.take (index r [41, 40]).toNat, (r.drop ((index r [41, 40]).toNat + 2)).take (index (r.drop ((index r [41, 40]).toNat + 2)) [41, 91]).toNat,
      ((r.drop ((index r [41, 40]).toNat + 2)).drop ((index (r.drop ((index r [41, 40]).toNat + 2)) [41, 91]).toNat + 2)).take (index ((r.drop ((index r [41, 40]).toNat + 2)).drop ((index (r.drop ((index r [41, 40]).toNat + 2)) [41, 91]).toNat + 2)) [93, 32]).toNat,
      (((r.drop ((index r [41, 40]).toNat + 2)).drop ((index (r.drop ((index r [41, 40]).toNat + 2)) [41, 91]).toNat + 2)).drop ((index ((r.drop ((index r [41, 40]).toNat + 2)).drop ((index (r.drop ((index r [41, 40]).toNat + 2)) [41, 91]).toNat + 2)) [93, 32]).toNat + 2)).take (index (((r.drop ((index r [41, 40]).toNat + 2)).drop ((index (r.drop ((index r [41, 40]).toNat + 2)) [41, 91]).toNat + 2)).drop ((index ((r.drop ((index r [41, 40]).toNat + 2)).drop ((index (r.drop ((index r [41, 40]).toNat + 2)) [41, 91]).toNat + 2)) [93, 32]).toNat + 2)) [32]).toNat,
      (((r.drop ((index r [41, 40]).toNat + 2)).drop ((index (r.drop ((index r [41, 40]).toNat + 2)) [41, 91]).toNat + 2)).drop ((index ((r.drop ((index r [41, 40]).toNat + 2)).drop ((index (r.drop ((index r [41, 40]).toNat + 2)) [41, 91]).toNat + 2)) [93, 32]).toNat + 2)).drop ((index (((r.drop ((index r [41, 40]).toNat + 2)).drop ((index (r.drop ((index r [41, 40]).toNat + 2)) [41, 91]).toNat + 2)).drop ((index ((r.drop ((index r [41, 40]).toNat + 2)).drop ((index (r.drop ((index r [41, 40]).toNat + 2)) [41, 91]).toNat + 2)) [93, 32]).toNat + 2)) [32]).toNat + 1)⟩
def tagsT (t : List UInt8) : List ByteArray := if t = [] then [] else (pcs 44 t.length t).map B
def itmR (num : List UInt8 → Int × Bool) (r : List UInt8) (o : S46 × Bool) : Prop := match cut5 r with
 | none => o.2 = false
 | some p => o = (⟨B p.base, B p.form, tagsT p.tags, (num p.next).1, (num p.wt).1⟩, (num p.next).2 && (num p.wt).2)
theorem atoi_bd {l : List UInt8} {v : Int} (h : atoiAll l = .ok v) : -9223372036854775808 ≤ v ∧ v ≤ 9223372036854775807 := by
 unfold atoiAll at h
 cases l with
 | nil => cases h
 | cons c r =>
  simp only at h
  cases hp : parseMag (if c.toNat = 43 ∨ c.toNat = 45 then r else c :: r) with
  | ok u =>
   rw [hp] at h
   simp only at h
   by_cases hn : c.toNat = 45
   ·simp only [hn, not_true_eq_false, false_and, if_false, true_and, if_true] at h
    split at h
    ·cases h
    ·cases h; omega
   ·simp only [hn, not_false_eq_true, true_and, false_and, if_false] at h
    split at h
    ·cases h
    ·cases h; omega
  | _ => rw [hp] at h; cases h
def numL (l : List UInt8) : Int × Bool := (numQ (B l)).getD (0, false)
theorem num_some {l : List UInt8} (h : l.length ≤ 4000) : numQ (B l) = some (numL l) := by
 have hb : -9223372036854775808 ≤ (numS (B l)).1 ∧ (numS (B l)).1 ≤ 9223372036854775807 := by
  unfold numS
  split
  ·rename_i v hv
   exact atoi_bd hv
  ·show -9223372036854775808 ≤ atoiSat _ ∧ atoiSat _ ≤ 9223372036854775807
   unfold atoiSat
   split <;> omega
  ·exact ⟨by decide, by decide⟩
 have e : numQ (B l) = some (numS (B l)) := by
  unfold numQ
  rw [if_pos ⟨by rw [B_size]; omega, hb.1, hb.2⟩]
 unfold numL
 rw [e]
 rfl
theorem f30_cut (m : Nat) (r : List UInt8) (hr : r.length ≤ 3999) : ∃ o, f30 m (B (40 :: r)) = some o ∧ itmR numL r o := by
 have p1 : cutPre (B (40 :: r)) (B [40]) = (B r, true) := by
  have p1 : hasPrefix (40 :: r) [40] = true := rfl
  have p2 : trimPrefix (40 :: r) [40] = r := by unfold trimPrefix; rw [if_pos p1]; rfl
  show ((⟨(trimPrefix (40 :: r) [40]).toArray⟩ : ByteArray), hasPrefix (40 :: r) [40]) = _
  rw [p1, p2]
  rfl
 have c2 : (⟨#[41, 40]⟩ : ByteArray) = B [41, 40] := rfl
 have c3 : (⟨#[41, 91]⟩ : ByteArray) = B [41, 91] := rfl
 have c4 : (⟨#[93, 32]⟩ : ByteArray) = B [93, 32] := rfl
 have c5 : (⟨#[32]⟩ : ByteArray) = B [32] := rfl
 have c6 : (⟨#[44]⟩ : ByteArray) = B [44] := rfl
 unfold f30 f29 itmR cut5
 rw [show (⟨#[40]⟩ : ByteArray) = B [40] from rfl, p1, bnd_some']
 show ∃ o, cnd (!true) _ (bnd (f44 m (B r) _) _) = some o ∧ _
 rw [Bool.not_true, cnd_false, c2]
 unfold f44
 rw [cutQ_ix r _ (by omega), bnd_some']
 by_cases h1 : index r [41, 40] = -1
 ·simp only [h1, if_true]
  exact ⟨_, rfl, rfl⟩
 obtain ⟨k1, e1, l1⟩ := index_nat h1
 simp only [h1, if_false]
 generalize hr2 : r.drop ((index r [41, 40]).toNat + 2) = r2
 have hl2 : r2.length ≤ 3999 := by rw [← hr2, List.length_drop]; omega
 rw [Bool.not_true, cnd_false, c3, cutQ_ix r2 _ (by omega), bnd_some']
 by_cases h2 : index r2 [41, 91] = -1
 ·simp only [h2, if_true]
  exact ⟨_, rfl, rfl⟩
 simp only [h2, if_false]
 generalize hr3 : r2.drop ((index r2 [41, 91]).toNat + 2) = r3
 have hl3 : r3.length ≤ 3999 := by rw [← hr3, List.length_drop]; omega
 rw [Bool.not_true, cnd_false, c4, cutQ_ix r3 _ (by omega), bnd_some']
 by_cases h3 : index r3 [93, 32] = -1
 ·simp only [h3, if_true]
  exact ⟨_, rfl, rfl⟩
 simp only [h3, if_false]
 generalize hr4 : r3.drop ((index r3 [93, 32]).toNat + 2) = r4
 generalize ht : r3.take (index r3 [93, 32]).toNat = t
 have hl4 : r4.length ≤ 3999 := by rw [← hr4, List.length_drop]; omega
 have hlt : t.length ≤ 3999 := by rw [← ht, List.length_take]; omega
 rw [Bool.not_true, cnd_false, c6]
 have hsp : f28 m (B t) (B [44]) = some ((pcs 44 t.length t).map B) := splitQ_pcs 44 t (by omega) t.length (Nat.le_refl _)
 have hj : ∀ (z2 z3 z4 : ByteArray × ByteArray × Bool) (z : List ByteArray), z4.2.1 = B r4 → ∃ o, f30_j2 m z2 z3 z4 z = some o ∧ (if index r4 [32] = -1 then o.2 = false else o = (⟨z2.1, z3.1, z, (numL (r4.take (index r4 [32]).toNat)).1, (numL (r4.drop ((index r4 [32]).toNat + 1))).1⟩, (numL (r4.take (index r4 [32]).toNat)).2 && (numL (r4.drop ((index r4 [32]).toNat + 1))).2)) := by
  intro z2 z3 z4 z hz4
  unfold f30_j2 f44
  rw [hz4, c5, cutQ_ix r4 _ (by omega), bnd_some']
  by_cases h4 : index r4 [32] = -1
  ·simp only [h4, if_true]
   exact ⟨_, rfl, rfl⟩
  simp only [h4, if_false]
  unfold f45
  rw [Bool.not_true, cnd_false, num_some (by rw [List.length_take]; omega), bnd_some', num_some (by rw [List.length_drop]; omega), bnd_some']
  exact ⟨_, rfl, rfl⟩
 have hb : ((B t).toList == (⟨#[]⟩ : ByteArray).toList) = decide (t = []) := by rw [B_beq]; rfl
 rw [hb]
 by_cases ht0 : t = []
 ·rw [decide_eq_true ht0, Bool.not_true, cnd_false]
  obtain ⟨o, g1, g2⟩ := hj (B (r.take (index r [41, 40]).toNat), B r2, true) (B (r2.take (index r2 [41, 91]).toNat), B r3, true) (B t, B r4, true) [] rfl
  refine ⟨o, g1, ?_⟩
  by_cases h4 : index r4 [32] = -1
  ·rw [if_pos h4] at g2 ⊢; exact g2
  ·rw [if_neg h4] at g2 ⊢
   have e : tagsT t = [] := if_pos ht0
   rw [g2]
   show _ = ((⟨B _, B _, tagsT t, _, _⟩ : S46), _)
   rw [e]
 ·rw [decide_eq_false ht0, Bool.not_false, cnd_true, hsp, bnd_some']
  obtain ⟨o, g1, g2⟩ := hj (B (r.take (index r [41, 40]).toNat), B r2, true) (B (r2.take (index r2 [41, 91]).toNat), B r3, true) (B t, B r4, true) ((pcs 44 t.length t).map B) rfl
  refine ⟨o, g1, ?_⟩
  by_cases h4 : index r4 [32] = -1
  ·rw [if_pos h4] at g2 ⊢; exact g2
  ·rw [if_neg h4] at g2 ⊢
   have e : tagsT t = (pcs 44 t.length t).map B := if_neg ht0
   rw [g2]
   show _ = ((⟨B _, B _, tagsT t, _, _⟩ : S46), _)
   rw [e]
theorem sidxB (d : List UInt8) (i : Nat) : sidx (B d) (i : Int) = (d[i]?).map fun c => (c.toNat : Int) := by
 rw [sidx_get]
 show (d.map _)[i]? = _
 rw [List.getElem?_map]
theorem u8_dig : ∀ k : Fin 10, w64 (IntKind.u8.wrap ((48 + (k.val : Int)) - 48)) = (k.val : Int) := by decide +kernel
theorem small_loop (m : Nat) (d : List UInt8) (hd : d.length ≤ 4000) : ∀ (K i a : Nat), i ≤ d.length → d.length - i < K → a ≤ 10000009 →
  iter (fun (y : Int × Int) => f46_B4 m (B d) y.1 y.2) K ((a : Int), (i : Int)) = if (d.drop i).all isDg then some (.inr (((cap a (d.drop i) : Nat) : Int), (d.length : Int))) else some (.inl (0, false))
 | 0, i, a, h1, h2, h3 => by omega
 | K + 1, i, a, h1, h2, h3 => by
  by_cases hlt : i < d.length
  ·obtain ⟨c, hc⟩ : ∃ c, d[i]? = some c := ⟨_, List.getElem?_eq_getElem hlt⟩
   have hdr : d.drop i = c :: d.drop (i + 1) := Xl.drop_cons hc
   have hsx : sidx (B d) (i : Int) = some (c.toNat : Int) := by rw [sidxB, hc]; rfl
   have hbad : (bnd (cnd (decide ((c.toNat : Int) < 48)) (some true) (bnd (some (c.toNat : Int)) fun v173 => some (decide (v173 > 57)))) fun v156 => f46_r3 m (B d) (a : Int) (i : Int) (c.toNat : Int) (decide ((c.toNat : Int) < 48)) v156) = f46_r3 m (B d) (a : Int) (i : Int) (c.toNat : Int) (decide ((c.toNat : Int) < 48)) (!isDg c) := by
    have e : cnd (decide ((c.toNat : Int) < 48)) (some true) (bnd (some (c.toNat : Int)) fun v173 => some (decide (v173 > 57))) = some (!isDg c) := by
     by_cases h48 : (c.toNat : Int) < 48
     ·rw [decide_eq_true h48, cnd_true]
      congr 1
      unfold isDg
      rw [decide_eq_false (by omega)]; rfl
     ·rw [decide_eq_false h48, cnd_false, bnd_some']
      congr 1
      unfold isDg
      by_cases h57 : c.toNat ≤ 57
      ·rw [decide_eq_false (by omega), decide_eq_true ⟨by omega, h57⟩]; rfl
      ·rw [decide_eq_true (by omega), decide_eq_false (by omega)]; rfl
    rw [e, bnd_some']
   have e : f46_B4 m (B d) (a : Int) (i : Int) = if isDg c then some (.nxt ((((if a ≤ 1000000 then 10 * a + (c.toNat - 48) else a) : Nat) : Int), ((i + 1 : Nat) : Int))) else some (.ret (0, false)) := by
    unfold f46_B4
    rw [B_size, decide_eq_true (by omega), cnd_true, hsx, bnd_some', hbad]
    unfold f46_r3
    cases hg : isDg c with
    | false => rfl
    | true =>
     have hcd := isDg_iff.1 hg
     rw [Bool.not_true, cnd_false, if_pos rfl]
     unfold f46_j2 f46_j1
     by_cases ha : a ≤ 1000000
     ·have hk := u8_dig ⟨c.toNat - 48, by omega⟩
      have hk : w64 (IntKind.u8.wrap ((c.toNat : Int) - 48)) = ((c.toNat - 48 : Nat) : Int) := by
       have e1 : (48 : Int) + ((c.toNat - 48 : Nat) : Int) = (c.toNat : Int) := by omega
       rw [← e1]; exact hk
      rw [decide_eq_true (by omega), cnd_true, hsx, bnd_some', hk, w64_nat i (by omega), if_pos ha, w64_id (n := 10 * (a : Int)) ⟨by omega, by omega⟩, w64_id ⟨by omega, by omega⟩]
      congr 3
     ·rw [decide_eq_false (by omega), cnd_false, w64_nat i (by omega), if_neg ha]
   unfold iter
   simp only [e]
   rw [hdr, List.all_cons]
   cases hg : isDg c with
   | false => simp
   | true =>
    have hcd := isDg_iff.1 hg
    simp only [if_true, Bool.true_and]
    exact small_loop m d hd K (i + 1) _ hlt (by omega) (by split <;> omega)
  ·have hi : i = d.length := by omega
   have e : f46_B4 m (B d) (a : Int) (i : Int) = some (.brk ((a : Int), (i : Int))) := by
    unfold f46_B4
    rw [B_size, decide_eq_false (by omega), cnd_false]
   unfold iter
   simp only [e]
   rw [List.drop_eq_nil_of_le (by omega), hi]
   rfl
theorem nat_beq (n k : Nat) : ((n : Int) == (k : Int)) = (n == k) := by
 by_cases h : n = k
 ·subst h; simp
 ·rw [show (n == k) = false by rw [beq_eq_false_iff_ne]; exact h, beq_eq_false_iff_ne]; omega
theorem dig_self (l : List UInt8) : (digL l == l) = !negL l := by
 unfold digL
 cases hn : negL l with
 | false => simp
 | true =>
  simp only [if_true]
  cases l with
  | nil => cases hn
  | cons c r =>
   rw [show (List.tail (c :: r) == c :: r) = false by
    rw [beq_eq_false_iff_ne]
    intro h
    have := congrArg List.length h
    simp at this]
   rfl
theorem f46_eq (m : Nat) (hm : 4001 < m) (l : List UInt8) (hl : l.length ≤ 4000) : f46 m (B l) = some (smallS l) := by
 have h7 : cnd (decide (((B l).size : Int) > 0)) (bnd (sidx (B l) 0) fun v228 => some (v228 == 45)) (some false) = some (negL l) := by
  rw [B_size]
  cases l with
  | nil => rfl
  | cons c r =>
   have := sidxB (c :: r) 0
   rw [decide_eq_true (by simp only [List.length_cons]; omega), cnd_true, show ((0 : Nat) : Int) = 0 from rfl] at *
   rw [this]
   exact congrArg some (nat_beq c.toNat 45)
 have hdl : (digL l).length ≤ l.length := by
  unfold digL
  split
  ·rw [List.length_tail]; omega
  ·exact Nat.le_refl _
 have h9 : f46_r9 m (B l) (negL l) = f46_j8 m (B l) (B (digL l)) := by
  unfold f46_r9 digL
  cases hn : negL l with
  | false => rfl
  | true =>
   have := ssubB (l := l) (i := 1) (j := l.length) (by cases l with | nil => cases hn | cons c r => simp) (Nat.le_refl _)
   rw [cnd_true, B_size, show (1 : Int) = ((1 : Nat) : Int) from rfl, this, bnd_some', List.take_of_length_le (by rw [List.length_drop]; omega)]
   simp
 have h8 : cnd (((B (digL l)).size : Int) == 0) (some true) (bnd (sidx (B (digL l)) 0) fun v224 => cnd (v224 == 48) (some (decide (((B l).size : Int) > 1))) (some false)) = some (zeroL l) := by
  rw [B_size, B_size]
  unfold zeroL
  cases hd : digL l with
  | nil => rfl
  | cons c r =>
   have := sidxB (c :: r) 0
   rw [show ((0 : Nat) : Int) = 0 from rfl] at this
   rw [show (((c :: r).length : Int) == 0) = false by rw [beq_eq_false_iff_ne]; simp only [List.length_cons]; omega, cnd_false, this]
   show cnd ((c.toNat : Int) == 48) _ _ = some (c.toNat == 48 && decide (1 < l.length))
   rw [show ((c.toNat : Int) == 48) = (c.toNat == 48) from nat_beq c.toNat 48]
   cases c.toNat == 48 with
   | false => rfl
   | true =>
    rw [cnd_true, Bool.true_and]
    congr 1
    by_cases h1 : 1 < l.length
    ·rw [decide_eq_true h1, decide_eq_true (by omega)]
    ·rw [decide_eq_false h1, decide_eq_false (by omega)]
 have hloop := small_loop m (digL l) (by omega) m 0 0 (Nat.zero_le _) (by omega) (by omega)
 rw [List.drop_zero] at hloop
 have hloop : iter (fun (y : Int × Int) => f46_B4 m (B (digL l)) y.1 y.2) m (0, 0) = _ := hloop
 have hlit : (⟨#[57, 50, 50, 51, 51, 55, 50, 48, 51, 54, 56, 53, 52, 55, 55, 53, 56, 48, 56]⟩ : ByteArray).toList = lit19 := B_tl lit19
 unfold f46
 rw [h7, bnd_some', h9]
 unfold f46_j8
 rw [h8, bnd_some']
 unfold f46_r7 smallS
 cases hz : zeroL l with
 | true => rfl
 | false =>
  rw [cnd_false, hloop]
  simp only [Bool.false_eq_true, if_false]
  cases hd : (digL l).all isDg with
  | false => rfl
  | true =>
   rw [if_pos rfl, brk_inr, hlit, B_tl, B_tl, B_size]
   have hbig : (((decide (((digL l).length : Int) > 19)) || ((((((digL l).length : Int)) == 19) && (((!(Op.bytesLess (digL l) lit19 || digL l == lit19)) || ((((digL l == lit19)) && (digL l == l))))))))) = bigD (digL l) (negL l) := by
    unfold bigD
    rw [dig_self, show ((((digL l).length : Int)) == 19) = ((digL l).length == 19) from nat_beq _ 19]
    congr 1
    by_cases h1 : 19 < (digL l).length
    ·rw [decide_eq_true h1, decide_eq_true (by omega)]
    ·rw [decide_eq_false h1, decide_eq_false (by omega)]
   rw [hbig]
   unfold f46_r6 f46_j5
   simp only [Bool.not_true, Bool.false_eq_true, if_false]
   cases hb : bigD (digL l) (negL l) with
   | true => rfl
   | false =>
    have hcl := cap_le (digL l) 0 hd (by omega)
    rw [cnd_false, B_tl, B_tl, dig_self, Bool.not_not]
    simp only [Bool.false_eq_true, if_false]
    cases hn : negL l with
    | true =>
     rw [cnd_true]
     show some (w64 (0 - ((cap 0 (digL l) : Nat) : Int)), true) = _
     rw [w64_id ⟨by omega, by omega⟩, Int.zero_sub]
     simp
    | false =>
     rw [cnd_false]
     simp
theorem tag_loop (m : Nat) (hm : 4001 < m) (l : List UInt8) (hl : l.length ≤ 4000) (b c : Nat) (hbc : b + 2 < c) (hc : c ≤ l.length) : ∀ (K a : Nat) (acc : List ByteArray), b + 2 ≤ a → a ≤ c → c - a + 1 < K → acc.length ≤ a →
  iter (fun (y : Int × (List ByteArray)) => f32_B3 m (B l) (b : Int) (c : Int) y.1 y.2) K ((a : Int), acc) = some (.inr (((c + 1 : Nat) : Int), acc ++ (pcs 44 (c - a) ((l.take c).drop a)).map B))
 | 0, a, acc, h1, h2, h3, h4 => by omega
 | K + 1, a, acc, h1, h2, h3, h4 => by
  have hlt : (l.take c).length = c := by rw [List.length_take]; omega
  have hql : ((l.take c).drop a).length = c - a := by rw [List.length_drop, hlt]
  have hpart : ∀ k, k ≤ c - a → ((l.drop a).take k) = ((l.take c).drop a).take k := fun k hk => by
   rw [List.drop_take, List.take_take, Nat.min_eq_left hk]
  have hbe := behind_eq m hm (l.take c) [44] (by simp) (by simp) (by omega) a (by omega)
  have e0 : f32_B3 m (B l) (b : Int) (c : Int) (a : Int) acc = cnd (decide (behindL (l.take c) [44] a < 0)) (f32_j1 m (B l) (a : Int) acc (c : Int)) (f32_j1 m (B l) (a : Int) acc (behindL (l.take c) [44] a)) := by
   unfold f32_B3 f32_r2
   rw [w64_id ⟨by omega, by omega⟩, decide_eq_true (by omega), decide_eq_true (by omega), Bool.and_self, cnd_true, ssubB0 hc, bnd_some', show (⟨#[44]⟩ : ByteArray) = B [44] from rfl, hbe, bnd_some']
  by_cases hix : index ((l.take c).drop a) [44] = -1
  ·have hb : behindL (l.take c) [44] a = -1 := if_pos hix
   have e : f32_B3 m (B l) (b : Int) (c : Int) (a : Int) acc = some (.nxt (((c + 1 : Nat) : Int), acc ++ [B ((l.take c).drop a)])) := by
    rw [e0, hb, decide_eq_true (by decide), cnd_true]
    unfold f32_j1
    rw [ssubB h2 hc, bnd_some', app_some 16 acc _ (by simp only [List.length_cons, List.length_nil]; omega) (by simp only [List.length_cons, List.length_nil]; omega), bnd_some', w64_nat c (by omega), hpart _ (Nat.le_refl _), List.take_of_length_le (by omega)]
   obtain ⟨K, rfl⟩ : ∃ q, K = q + 1 := ⟨K - 1, by omega⟩
   have e2 : f32_B3 m (B l) (b : Int) (c : Int) ((c + 1 : Nat) : Int) (acc ++ [B ((l.take c).drop a)]) = some (.brk (((c + 1 : Nat) : Int), acc ++ [B ((l.take c).drop a)])) := by
    unfold f32_B3 f32_r2
    rw [decide_eq_false (by omega : ¬ ((c + 1 : Nat) : Int) ≤ (c : Int)), Bool.and_false, cnd_false]
   rw [pcs_none hix]
   unfold iter
   simp only [e]
   unfold iter
   simp only [e2]
   rfl
  ·obtain ⟨k, hk, hkl⟩ := index_nat hix
   simp only [List.length_cons, List.length_nil] at hkl
   have hb : behindL (l.take c) [44] a = ((a + k : Nat) : Int) := by
    unfold behindL
    rw [if_neg hix, hk]; omega
   have e : f32_B3 m (B l) (b : Int) (c : Int) (a : Int) acc = some (.nxt (((a + k + 1 : Nat) : Int), acc ++ [B (((l.take c).drop a).take k)])) := by
    rw [e0, hb, decide_eq_false (by omega), cnd_false]
    unfold f32_j1
    rw [ssubB (by omega) (by omega), bnd_some', app_some 16 acc _ (by simp only [List.length_cons, List.length_nil]; omega) (by simp only [List.length_cons, List.length_nil]; omega), bnd_some', w64_nat (a + k) (by omega), show a + k - a = k by omega, hpart k (by omega)]
   obtain ⟨z, hz⟩ : ∃ z, c - a = z + 1 := ⟨c - a - 1, by omega⟩
   have ep : pcs 44 (c - a) ((l.take c).drop a) = ((l.take c).drop a).take k :: pcs 44 z (((l.take c).drop a).drop (k + 1)) := by
    rw [hz]
    show (if index ((l.take c).drop a) [44] = -1 then _ else _) = _
    rw [if_neg hix, hk]
    rfl
   unfold iter
   simp only [e]
   rw [tag_loop m hm l hl b c hbc hc K (a + k + 1) _ (by omega) (by omega) (by omega) (by rw [List.length_append]; simp only [List.length_cons, List.length_nil]; omega), ep, List.drop_drop, show a + (k + 1) = a + k + 1 by omega,
    pcs_fuel 44 z (c - (a + k + 1)) _ (by rw [List.length_drop, hlt]; omega) (by rw [List.length_drop, hlt]; omega)]
   simp
theorem f32_cut (m : Nat) (hm : 4001 < m) (r : List UInt8) (hr : r.length ≤ 3994) : ∃ o, f32 m (B (itmT ++ 40 :: r)) = some o ∧ itmR smallS r o := by
 generalize hl : itmT ++ 40 :: r = l
 have hi : itmT.length = 5 := rfl
 have hll : l.length = 6 + r.length := by rw [← hl, List.length_append, hi, List.length_cons]; omega
 have hd6 : l.drop 6 = r := by rw [← hl]; rfl
 have ht6 : l.take 6 = itmT ++ [40] := by rw [← hl]; rfl
 have hb : ∀ (p : List UInt8) (a : Nat), 1 ≤ p.length → p.length ≤ 100 → a ≤ l.length → f31 m (B l) (a : Int) (B p) = some (behindL l p a) := fun p a h1 h2 h3 => behind_eq m hm l p h1 h2 (by omega) a h3
 have hno : ∀ (p : List UInt8) (a : Nat), index (l.drop a) p = -1 → behindL l p a = -1 := fun p a h => if_pos h
 have hyes : ∀ (p : List UInt8) (a k : Nat), index (l.drop a) p = k → behindL l p a = ((a + k : Nat) : Int) := fun p a k h => by
  unfold behindL
  rw [if_neg (by omega), h]; omega
 have c2 : (⟨#[41, 40]⟩ : ByteArray) = B [41, 40] := rfl
 have c3 : (⟨#[41, 91]⟩ : ByteArray) = B [41, 91] := rfl
 have c4 : (⟨#[93, 32]⟩ : ByteArray) = B [93, 32] := rfl
 have c5 : (⟨#[32]⟩ : ByteArray) = B [32] := rfl
 have h7 : (bnd (ssub (B l) 0 6) fun v83 => some (!(v83.toList == ((⟨#[105, 116, 101, 109, 32, 40]⟩ : ByteArray)).toList))) = some false := by
  rw [show (6 : Int) = ((6 : Nat) : Int) from rfl, ssubB0 (by omega), bnd_some', ht6, B_beq, L_B, show L (⟨#[105, 116, 101, 109, 32, 40]⟩ : ByteArray) = itmT ++ [40] from rfl, decide_eq_true rfl]
  rfl
 unfold f32
 rw [B_size, decide_eq_false (by omega), cnd_false, h7, bnd_some']
 unfold f32_r5 itmR cut5
 have h6 := hb [41, 40] 6 (by simp) (by simp) (by omega)
 rw [show ((6 : Nat) : Int) = 6 from rfl] at h6
 rw [cnd_false, c2, h6, bnd_some']
 by_cases h1 : index r [41, 40] = -1
 ·rw [hno _ _ (by rw [hd6]; exact h1), if_pos h1]
  exact ⟨_, rfl, rfl⟩
 obtain ⟨k1, e1, l1⟩ := index_nat h1
 simp only [List.length_cons, List.length_nil] at l1
 rw [if_neg h1, hyes _ _ k1 (by rw [hd6]; exact e1), decide_eq_false (by omega), cnd_false, w64_id (n := ((6 + k1 : Nat) : Int) + 2) ⟨by omega, by omega⟩, show ((6 + k1 : Nat) : Int) + 2 = ((6 + k1 + 2 : Nat) : Int) by omega, c3, hb [41, 91] _ (by simp) (by simp) (by omega), bnd_some', e1, Int.toNat_natCast]
 have hd1 : l.drop (6 + k1 + 2) = r.drop (k1 + 2) := by rw [← hd6, List.drop_drop]; congr 1
 generalize hr2 : r.drop (k1 + 2) = r2 at hd1 ⊢
 have hl2 : r2.length = r.length - (k1 + 2) := by rw [← hr2, List.length_drop]
 by_cases h2 : index r2 [41, 91] = -1
 ·rw [hno _ _ (by rw [hd1]; exact h2), if_pos h2]
  exact ⟨_, rfl, rfl⟩
 obtain ⟨k2, e2, l2⟩ := index_nat h2
 simp only [List.length_cons, List.length_nil] at l2
 rw [if_neg h2, hyes _ _ k2 (by rw [hd1]; exact e2), decide_eq_false (by omega), cnd_false, w64_id (n := ((6 + k1 + 2 + k2 : Nat) : Int) + 2) ⟨by omega, by omega⟩, show ((6 + k1 + 2 + k2 : Nat) : Int) + 2 = ((6 + k1 + 2 + k2 + 2 : Nat) : Int) by omega, c4, hb [93, 32] _ (by simp) (by simp) (by omega), bnd_some', e2, Int.toNat_natCast]
 have hd2 : l.drop (6 + k1 + 2 + k2 + 2) = r2.drop (k2 + 2) := by rw [← hd1, List.drop_drop]; congr 1
 generalize hr3 : r2.drop (k2 + 2) = r3 at hd2 ⊢
 have hl3 : r3.length = r2.length - (k2 + 2) := by rw [← hr3, List.length_drop]
 by_cases h3 : index r3 [93, 32] = -1
 ·rw [hno _ _ (by rw [hd2]; exact h3), if_pos h3]
  exact ⟨_, rfl, rfl⟩
 obtain ⟨k3, e3, l3⟩ := index_nat h3
 simp only [List.length_cons, List.length_nil] at l3
 rw [if_neg h3, hyes _ _ k3 (by rw [hd2]; exact e3), decide_eq_false (by omega), cnd_false, w64_id (n := ((6 + k1 + 2 + k2 + 2 + k3 : Nat) : Int) + 2) ⟨by omega, by omega⟩, show ((6 + k1 + 2 + k2 + 2 + k3 : Nat) : Int) + 2 = ((6 + k1 + 2 + k2 + 2 + k3 + 2 : Nat) : Int) by omega, c5, hb [32] _ (by simp) (by simp) (by omega), bnd_some', e3, Int.toNat_natCast]
 have hd3 : l.drop (6 + k1 + 2 + k2 + 2 + k3 + 2) = r3.drop (k3 + 2) := by rw [← hd2, List.drop_drop]; congr 1
 generalize hr4 : r3.drop (k3 + 2) = r4 at hd3 ⊢
 have hl4 : r4.length = r3.length - (k3 + 2) := by rw [← hr4, List.length_drop]
 by_cases h4 : index r4 [32] = -1
 ·rw [hno _ _ (by rw [hd3]; exact h4), if_pos h4]
  exact ⟨_, rfl, rfl⟩
 obtain ⟨k4, e4, l4⟩ := index_nat h4
 simp only [List.length_cons, List.length_nil] at l4
 have hs1 := ssubB (l := l) (i := 6) (j := 6 + k1) (by omega) (by omega)
 rw [show ((6 : Nat) : Int) = 6 from rfl] at hs1
 have hloop : iter (fun (y : Int × (List ByteArray)) => f32_B3 m (B l) ((6 + k1 + 2 + k2 : Nat) : Int) ((6 + k1 + 2 + k2 + 2 + k3 : Nat) : Int) y.1 y.2) m (((6 + k1 + 2 + k2 + 2 : Nat) : Int), []) = some (.inr (((if k3 = 0 then 6 + k1 + 2 + k2 + 2 else 6 + k1 + 2 + k2 + 2 + k3 + 1 : Nat) : Int), tagsT (r3.take k3))) := by
  by_cases hk0 : k3 = 0
  ·subst hk0
   obtain ⟨q, rfl⟩ : ∃ q, m = q + 1 := ⟨m - 1, by omega⟩
   have e : f32_B3 (q + 1) (B l) ((6 + k1 + 2 + k2 : Nat) : Int) ((6 + k1 + 2 + k2 + 2 + 0 : Nat) : Int) ((6 + k1 + 2 + k2 + 2 : Nat) : Int) [] = some (.brk (((6 + k1 + 2 + k2 + 2 : Nat) : Int), [])) := by
    unfold f32_B3 f32_r2
    rw [w64_id ⟨by omega, by omega⟩, decide_eq_false (by omega), Bool.false_and, cnd_false]
   unfold iter
   simp only [e]
   rfl
  ·rw [if_neg hk0, tag_loop m hm l (by omega) (6 + k1 + 2 + k2) (6 + k1 + 2 + k2 + 2 + k3) (by omega) (by omega) m (6 + k1 + 2 + k2 + 2) [] (Nat.le_refl _) (by omega) (by omega) (Nat.zero_le _)]
   have hq : (l.take (6 + k1 + 2 + k2 + 2 + k3)).drop (6 + k1 + 2 + k2 + 2) = r3.take k3 := by
    rw [List.drop_take, hd2]
    congr 1
    omega
   have htl : (r3.take k3).length = k3 := by rw [List.length_take]; omega
   rw [hq, List.nil_append]
   unfold tagsT
   rw [if_neg (by intro h; rw [h] at htl; simp at htl; omega), htl, show 6 + k1 + 2 + k2 + 2 + k3 - (6 + k1 + 2 + k2 + 2) = k3 by omega]
 rw [if_neg h4, hyes _ _ k4 (by rw [hd3]; exact e4), decide_eq_false (by omega), cnd_false, hs1, bnd_some', ssubB (by omega) (by omega), bnd_some', hloop, brk_inr, ssubB (by omega) (by omega), bnd_some']
 have hw : w64 (((6 + k1 + 2 + k2 + 2 + k3 + 2 + k4 : Nat) : Int) + 1) = ((6 + k1 + 2 + k2 + 2 + k3 + 2 + k4 + 1 : Nat) : Int) := w64_nat _ (by omega)
 rw [hw, hd6, hd1, hd3, show 6 + k1 - 6 = k1 by omega, show 6 + k1 + 2 + k2 - (6 + k1 + 2) = k2 by omega, show 6 + k1 + 2 + k2 + 2 + k3 + 2 + k4 - (6 + k1 + 2 + k2 + 2 + k3 + 2) = k4 by omega, f46_eq m hm _ (by rw [List.length_take]; omega), bnd_some', B_size, ssubB (by omega) (Nat.le_refl _), bnd_some']
 have hd4 : l.drop (6 + k1 + 2 + k2 + 2 + k3 + 2 + k4 + 1) = r4.drop (k4 + 1) := by rw [← hd3, List.drop_drop]; congr 1
 rw [List.take_of_length_le (by rw [List.length_drop]; omega), hd4, f46_eq m hm _ (by rw [List.length_drop]; omega), bnd_some', e4, Int.toNat_natCast]
 exact ⟨_, rfl, rfl⟩
theorem f32_no (m : Nat) (l : List UInt8) (h : l.take 6 ≠ itmT ++ [40]) : ∃ y, f32 m (B l) = some (y, false) := by
 have e : cnd (decide (((B l).size : Int) < 6)) (some true) (bnd (ssub (B l) 0 6) fun v83 => some (!(v83.toList == ((⟨#[105, 116, 101, 109, 32, 40]⟩ : ByteArray)).toList))) = some true := by
  rw [B_size]
  by_cases h6 : l.length < 6
  ·rw [decide_eq_true (by omega), cnd_true]
  ·rw [decide_eq_false (by omega), cnd_false, show (6 : Int) = ((6 : Nat) : Int) from rfl, ssubB0 (by omega), bnd_some', B_beq]
   have : L (⟨#[105, 116, 101, 109, 32, 40]⟩ : ByteArray) = itmT ++ [40] := rfl
   rw [this, L_B, decide_eq_false h]
   rfl
 unfold f32
 rw [e, bnd_some']
 exact ⟨_, rfl⟩
theorem num_itoa {v : Int} (h : -9223372036854775808 ≤ v ∧ v ≤ 9223372036854775807) : numL (itoa v) = (v, true) := by
 have hn : numS (B (itoa v)) = (v, true) := by
  unfold numS
  have e : atoiAll (B (itoa v)).data.toList = .ok v := atoi_itoa h
  rw [e, B_tl]
  simp
 have hl : (itoa v).length ≤ 21 := itoa_length_le v (by omega) (by omega)
 unfold numL numQ
 rw [hn, if_pos ⟨by rw [B_size]; omega, h.1, h.2⟩]
 rfl
theorem num_ok {l : List UInt8} {v : Int} (hl : l.length ≤ 4000) (h : numL l = (v, true)) : (-9223372036854775808 ≤ v ∧ v ≤ 9223372036854775807) ∧ l = itoa v := by
 have hs : numS (B l) = (v, true) := by
  have := num_some hl
  rw [h] at this
  unfold numQ at this
  split at this
  ·exact Option.some.inj this
  ·cases this
 unfold numS at hs
 split at hs
 ·rename_i u hu
  simp only [Prod.mk.injEq] at hs
  obtain ⟨rfl, h2⟩ := hs
  rw [B_tl, beq_iff_eq] at h2
  exact ⟨atoi_bd hu, h2.symm⟩
 ·cases hs
 ·cases hs
theorem num_rel {l : List UInt8} (hl : l.length ≤ 4000) : (numL l).2 = (smallS l).2 ∧ ((numL l).2 = true → numR (numL l).1 (smallS l).1) := by
 obtain ⟨a, b, hs⟩ : ∃ a b, smallS l = (a, b) := ⟨_, _, rfl⟩
 obtain ⟨c, d, hn⟩ : ∃ a b, numL l = (a, b) := ⟨_, _, rfl⟩
 cases b with
 | true =>
  obtain ⟨v, hv, rfl, hr⟩ := small_ok hs
  rw [num_itoa hv] at hn ⊢
  rw [hs]
  exact ⟨rfl, fun _ => hr⟩
 | false =>
  cases d with
  | true =>
   obtain ⟨hv, rfl⟩ := num_ok hl hn
   obtain ⟨n, h1, _⟩ := small_itoa hv
   rw [h1] at hs
   cases hs
  | false =>
   rw [hs, hn]
   exact ⟨rfl, fun h => by cases h⟩
structure ItR (x y : S46) : Prop where
 base : x.fBase = y.fBase
 form : x.fForm = y.fForm
 tags : x.fTags = y.fTags
 next : numR x.fNext y.fNext
 wt : numR x.fWeight y.fWeight
inductive R2 {α β : Type} (r : α → β → Prop) : List α → List β → Prop where
 | nil : R2 r [] []
 | cons {x : α} {y : β} {l : List α} {l' : List β} (h : r x y) (t : R2 r l l') : R2 r (x :: l) (y :: l')
theorem R2.len {α β : Type} {r : α → β → Prop} {l : List α} {l' : List β} (h : R2 r l l') : l.length = l'.length := by
 induction h with
 | nil => rfl
 | cons _ _ ih => rw [List.length_cons, List.length_cons, ih]
theorem R2.app {α β : Type} {r : α → β → Prop} {l : List α} {l' : List β} {x : α} {y : β} (h : R2 r l l') (hx : r x y) : R2 r (l ++ [x]) (l' ++ [y]) := by
 induction h with
 | nil => exact .cons hx .nil
 | cons h _ ih => exact .cons h ih
theorem R2.last {α β : Type} {r : α → β → Prop} {l : List α} {x : α} : ∀ {l' : List β}, R2 r (l ++ [x]) l' → ∃ m y, l' = m ++ [y] ∧ R2 r l m ∧ r x y := by
 induction l with
 | nil =>
  intro l' h
  cases h with
  | cons h t => cases t with
   | nil => exact ⟨[], _, rfl, .nil, h⟩
 | cons z l ih =>
  intro l' h
  cases h with
  | cons h t =>
   obtain ⟨m, y, rfl, h1, h2⟩ := ih t
   exact ⟨_ :: m, y, rfl, .cons h h1, h2⟩
structure ClR (x y : S44) : Prop where
 name : x.fName = y.fName
 items : R2 ItR x.fItems y.fItems
theorem numR_out {a b : Int} (h : numR a b) (n : Nat) (hn : n ≤ 1000000) : (a < -1 ∨ (n : Int) ≤ a) ↔ (b < -1 ∨ (n : Int) ≤ b) := by
 rcases h with rfl | h
 ·exact Iff.rfl
 ·omega
theorem numR_wt {a b : Int} (h : numR a b) : (a < 0 ∨ 1000000 < a) ↔ (b < 0 ∨ 1000000 < b) := by
 rcases h with rfl | h
 ·exact Iff.rfl
 ·omega
theorem item_same {n : Nat} (hn : n ≤ 1000000) {x y : S46} (h : ItR x y) : itemBad n x = itemBad n y := by
 unfold itemBad
 rw [h.base, h.form, h.tags]
 have e : (x.fNext < -1 ∨ (n : Int) ≤ x.fNext ∨ x.fWeight < 0 ∨ 1000000 < x.fWeight) ↔ (y.fNext < -1 ∨ (n : Int) ≤ y.fNext ∨ y.fWeight < 0 ∨ 1000000 < y.fWeight) := by
  have h1 := numR_out h.next n hn
  have h2 := numR_wt h.wt
  constructor
  ·rintro (g | g | g)
   ·rcases h1.1 (.inl g) with g | g
    ·exact .inl g
    ·exact .inr (.inl g)
   ·rcases h1.1 (.inr g) with g | g
    ·exact .inl g
    ·exact .inr (.inl g)
   ·exact .inr (.inr (h2.1 g))
  ·rintro (g | g | g)
   ·rcases h1.2 (.inl g) with g | g
    ·exact .inl g
    ·exact .inr (.inl g)
   ·rcases h1.2 (.inr g) with g | g
    ·exact .inl g
    ·exact .inr (.inl g)
   ·exact .inr (.inr (h2.2 g))
 simp only [e]
theorem items_same {n : Nat} (hn : n ≤ 1000000) {l l' : List S46} (h : R2 ItR l l') : firstC (itemBad n) l = firstC (itemBad n) l' := by
 unfold firstC
 induction h with
 | nil => rfl
 | cons h _ ih => rw [List.map_cons, List.map_cons, orr, orr, item_same hn h, ih]
theorem names_same {l l' : List S44} (h : R2 ClR l l') (nm : ByteArray) : ∀ i, ((l.take i).any fun d => decide (d.fName = nm)) = ((l'.take i).any fun d => decide (d.fName = nm)) := by
 induction h with
 | nil => intro i; rfl
 | cons h _ ih =>
  intro i
  cases i with
  | zero => rfl
  | succ i => rw [List.take_succ_cons, List.take_succ_cons, List.any_cons, List.any_cons, ih i, h.name]
theorem class_same {l l' : List S44} (hl : R2 ClR l l') (hn : l.length ≤ 1000000) (i : Nat) {c c' : S44} (h : ClR c c') : classBad l i c = classBad l' i c' := by
 unfold classBad
 rw [h.name, names_same hl, h.items.len, ← hl.len, items_same hn h.items]
theorem from_same {l l' : List S44} (hl : R2 ClR l l') (hn : l.length ≤ 1000000) {r r' : List S44} (h : R2 ClR r r') : ∀ i, lexFrom l i r = lexFrom l' i r' := by
 induction h with
 | nil => intro i; rfl
 | cons h _ ih =>
  intro i
  unfold lexFrom
  rw [class_same hl hn i h, ih (i + 1)]
theorem lexF_same {l l' : List S44} (h : R2 ClR l l') : lexF l = lexF l' := by
 unfold lexF
 rw [← h.len]
 split
 ·rfl
 ·exact from_same h (by omega) h 0
theorem item_eq_of {n : Nat} {x y : S46} (h : ItR x y) (h0 : ItV n x) (hn : n ≤ 1000000) : x = y := by
 obtain ⟨g1, g2, g3, g4, g5⟩ := h
 have e1 : x.fNext = y.fNext := by
  rcases g4 with g | g
  ·exact g
  ·have := h0.next; omega
 have e2 : x.fWeight = y.fWeight := by
  rcases g5 with g | g
  ·exact g
  ·have := h0.wt; omega
 cases x; cases y
 simp only at g1 g2 g3 e1 e2
 rw [g1, g2, g3, e1, e2]
theorem items_eq_of {n : Nat} (hn : n ≤ 1000000) {l l' : List S46} (h : R2 ItR l l') : (∀ x ∈ l, ItV n x) → l = l' := by
 induction h with
 | nil => intro _; rfl
 | cons h _ ih =>
  intro hv
  rw [item_eq_of h (hv _ List.mem_cons_self) hn, ih fun x hx => hv x (List.mem_cons_of_mem _ hx)]
theorem cls_eq_of {n : Nat} (hn : n ≤ 1000000) {l l' : List S44} (h : R2 ClR l l') : (∀ c ∈ l, ∀ x ∈ c.fItems, ItV n x) → l = l' := by
 induction h with
 | nil => intro _; rfl
 | @cons x y _ _ h _ ih =>
  intro hv
  have e : x = y := by
   have h1 := h.name
   have h2 := items_eq_of hn h.items (hv _ List.mem_cons_self)
   cases x; cases y
   simp only at h1 h2
   rw [h1, h2]
  rw [e, ih fun c hc => hv c (List.mem_cons_of_mem _ hc)]
def ResR (P Q : S26 ⊕ List S44) : Prop := (∃ f, P = .inl f ∧ Q = .inl f) ∨ ∃ c c', P = .inr c ∧ Q = .inr c' ∧ R2 ClR c c'
theorem itm_rel {r : List UInt8} (hr : r.length ≤ 4000) {o o' : S46 × Bool} (h : itmR numL r o) (h' : itmR smallS r o') : o.2 = o'.2 ∧ (o.2 = true → ItR o.1 o'.1) := by
 unfold itmR at h h'
 cases hc : cut5 r with
 | none =>
  rw [hc] at h h'
  have h : o.2 = false := h
  have h' : o'.2 = false := h'
  rw [h, h']
  exact ⟨rfl, fun h => by cases h⟩
 | some p =>
  rw [hc] at h h'
  have h : o = _ := h
  have h' : o' = _ := h'
  have hlen : p.next.length ≤ 4000 ∧ p.wt.length ≤ 4000 := by
   unfold cut5 at hc
   split at hc
   ·cases hc
   ·split at hc
    ·cases hc
    ·split at hc
     ·cases hc
     ·split at hc
      ·cases hc
      ·cases hc
       constructor
       ·simp only [List.length_take, List.length_drop]; omega
       ·simp only [List.length_drop]; omega
  obtain ⟨n1, n2⟩ := num_rel hlen.1
  obtain ⟨w1, w2⟩ := num_rel hlen.2
  subst h
  subst h'
  refine ⟨?_, fun hb => ?_⟩
  ·show ((numL p.next).2 && (numL p.wt).2) = ((smallS p.next).2 && (smallS p.wt).2)
   rw [n1, w1]
  ·have hb : ((numL p.next).2 && (numL p.wt).2) = true := hb
   rw [Bool.and_eq_true] at hb
   exact ⟨rfl, rfl, rfl, n2 hb.1, w2 hb.2⟩
theorem isCls_eq (x : List UInt8) : Xq.isCls (B x) = some (hasPrefix x clsT) := by
 unfold Xq.isCls
 rw [B_size]
 have hp : hasPrefix x clsT = decide (x.take 6 = clsT) := pfx_take clsT x
 by_cases h6 : 6 ≤ x.length
 ·rw [if_pos (by omega), show (6 : Int) = ((6 : Nat) : Int) from rfl, ssubB0 h6, hp]
  show some ((B (x.take 6)).toList == Xp.clsB.toList) = _
  rw [B_beq]
  rfl
 ·rw [if_neg (by omega), hp, decide_eq_false]
  intro h
  have := congrArg List.length h
  rw [List.length_take] at this
  have h3 : clsT.length = 6 := rfl
  omega
theorem cutPre_eq (x p : List UInt8) : cutPre (B x) (B p) = (B (trimPrefix x p), hasPrefix x p) := rfl
theorem f30_no (m : Nat) (s : List UInt8) (h : ∀ r, s ≠ 40 :: r) : ∃ y, f30 m (B s) = some (y, false) := by
 have hp : hasPrefix s [40] = false := by
  cases s with
  | nil => rfl
  | cons c r =>
   show ((40 : UInt8) == c && _) = false
   have hc : ((40 : UInt8) == c) = false := by
    rw [beq_eq_false_iff_ne]
    rintro rfl
    exact h r rfl
   rw [hc, Bool.false_and]
 have e : cutPre (B s) (B [40]) = (B (trimPrefix s [40]), false) := by rw [cutPre_eq, hp]
 unfold f30 f29
 rw [show (⟨#[40]⟩ : ByteArray) = B [40] from rfl, e, bnd_some']
 exact ⟨_, rfl⟩
theorem step_rel (m : Nat) (hm : 4001 < m) (i : Int) (x : List UInt8) (hx : x.length ≤ 4000) {cl cl' : List S44} (h : R2 ClR cl cl') : ∃ P Q, Xp.stepL m i cl (B x) = some P ∧ Xq.stepR m i cl' (B x) = some Q ∧ ResR P Q := by
 unfold Xp.stepL Xq.stepR
 rw [isCls_eq, show Xp.clsB = B clsT from rfl, show Xp.itmB = B itmT from rfl, cutPre_eq, cutPre_eq]
 cases hc : hasPrefix x clsT with
 | true =>
  have hp : x.take 6 = clsT := by
   have : hasPrefix x clsT = decide (x.take 6 = clsT) := pfx_take clsT x
   rw [hc] at this
   exact of_decide_eq_true this.symm
  have hl6 : 6 ≤ x.length := by
   have := congrArg List.length hp
   rw [List.length_take] at this
   have h3 : clsT.length = 6 := rfl
   omega
  have ht : trimPrefix x clsT = x.drop 6 := by unfold trimPrefix; rw [if_pos hc]; rfl
  have hs : ssub (B x) 6 (B x).size = some (B (x.drop 6)) := by
   have := ssubB (l := x) (i := 6) (j := x.length) hl6 (Nat.le_refl _)
   rw [List.take_of_length_le (by rw [List.length_drop]; omega)] at this
   rw [B_size]
   exact this
  simp only [hs]
  refine ⟨_, _, rfl, rfl, .inr ⟨_, _, rfl, rfl, ?_⟩⟩
  rw [ht]
  exact h.app ⟨rfl, .nil⟩
 | false =>
  simp only
  by_cases hq : x.take 6 = itmT ++ [40]
  ·obtain ⟨r, hr⟩ : ∃ r, x = itmT ++ 40 :: r := ⟨x.drop 6, by
    have := List.take_append_drop 6 x
    rw [hq] at this
    rw [← this]; rfl⟩
   have hi : itmT.length = 5 := rfl
   have hrl : r.length ≤ 3994 := by rw [hr, List.length_append, hi, List.length_cons] at hx; omega
   have hpi : hasPrefix x itmT = true := by rw [hr]; exact pfx_self itmT _
   have hti : trimPrefix x itmT = 40 :: r := by unfold trimPrefix; rw [if_pos hpi, hr]; exact List.drop_left
   obtain ⟨o, ho, hro⟩ := f30_cut m r (by omega)
   obtain ⟨o', ho', hro'⟩ := f32_cut m hm r hrl
   obtain ⟨h1, h2⟩ := itm_rel (by omega) hro hro'
   rw [← hr] at ho'
   obtain ⟨y, b⟩ := o
   obtain ⟨y', b'⟩ := o'
   simp only at h1 h2
   subst h1
   rw [hpi, hti, ho']
   simp only
   cases h with
   | nil =>
    cases b with
    | true => exact ⟨_, _, rfl, rfl, .inl ⟨_, rfl, rfl⟩⟩
    | false => exact ⟨_, _, rfl, rfl, .inl ⟨_, rfl, rfl⟩⟩
   | @cons c c' l l' hcc ht =>
    simp only [ho]
    cases b with
    | false => exact ⟨_, _, rfl, rfl, .inl ⟨_, rfl, rfl⟩⟩
    | true =>
     refine ⟨_, _, rfl, rfl, .inr ⟨_, _, rfl, rfl, ?_⟩⟩
     have hR : R2 ClR (c :: l) (c' :: l') := .cons hcc ht
     obtain ⟨init, z, hz⟩ : ∃ init z, c :: l = init ++ [z] := ⟨(c :: l).dropLast, (c :: l).getLast (by simp), (List.dropLast_concat_getLast (by simp)).symm⟩
     rw [hz] at hR ⊢
     obtain ⟨init', z', hz', hR1, hzz⟩ := hR.last
     rw [hz', Xp.addI_app, Xp.addI_app]
     exact hR1.app ⟨hzz.name, hzz.items.app (h2 rfl)⟩
  ·obtain ⟨y', hy'⟩ := f32_no m x hq
   rw [hy']
   simp only
   cases hpi : hasPrefix x itmT with
   | false => exact ⟨_, _, rfl, rfl, .inl ⟨_, rfl, rfl⟩⟩
   | true =>
    simp only
    cases h with
    | nil => exact ⟨_, _, rfl, rfl, .inl ⟨_, rfl, rfl⟩⟩
    | cons hcc ht =>
     have hti : trimPrefix x itmT = x.drop 5 := by unfold trimPrefix; rw [if_pos hpi]; rfl
     obtain ⟨y, hy⟩ := f30_no m (x.drop 5) fun r hr => hq (by
      have h5 : x.take 5 = itmT := by
       have : hasPrefix x itmT = decide (x.take 5 = itmT) := pfx_take itmT x
       rw [hpi] at this
       exact of_decide_eq_true this.symm
      have := List.take_append_drop 5 x
      rw [h5, hr] at this
      rw [← this]; rfl)
     rw [hti]
     simp only [hy]
     exact ⟨_, _, rfl, rfl, .inl ⟨_, rfl, rfl⟩⟩
theorem lines_rel (m : Nat) (hm : 4001 < m) (t : List UInt8) (ht : t.length ≤ 4000) : ∀ (K a i : Nat) (cl cl' : List S44), a ≤ t.length → t.length - a < K → i ≤ a → R2 ClR cl cl' →
  ∃ P Q, Xp.parseL m (i : Int) cl ((pcs 10 (t.length - a) (t.drop a)).map B) = some P ∧ Xq.lofL m (B t) K (i : Int) (a : Int) cl' = some Q ∧ ResR P Q
 | 0, a, i, cl, cl', h1, h2, h3, h4 => by omega
 | K + 1, a, i, cl, cl', h1, h2, h3, h4 => by
  have e0 : Xq.lofL m (B t) (K + 1) (i : Int) (a : Int) cl' = if (a : Int) < ((B t).size : Int) then match f31 m (B t) (a : Int) Xq.nlB with
   | none => none
   | some e => if e < 0 then some (.inl ⟨11, (i : Int)⟩) else match ssub (B t) (a : Int) e with
    | none => none
    | some s => match Xq.stepR m (i : Int) cl' s with
     | none => none
     | some (.inl f) => some (.inl f)
     | some (.inr c) => Xq.lofL m (B t) K (w64 ((i : Int) + 1)) (w64 (e + 1)) c
   else some (.inr cl') := rfl
  rw [B_size] at e0
  by_cases hlt : a < t.length
  ·have hbe := behind_eq m hm t [10] (by simp) (by simp) ht a h1
   rw [if_pos (by omega), show Xq.nlB = B [10] from rfl, hbe] at e0
   simp only at e0
   have hdl : (t.drop a).length = t.length - a := List.length_drop
   by_cases hix : index (t.drop a) [10] = -1
   ·have hb : behindL t [10] a = -1 := if_pos hix
    rw [hb, if_pos (by decide)] at e0
    rw [pcs_none hix]
    refine ⟨.inl ⟨11, (i : Int)⟩, _, ?_, e0, .inl ⟨_, rfl, rfl⟩⟩
    show (if ((B (t.drop a)).toList == (⟨#[]⟩ : ByteArray).toList) = true then some (Sum.inr cl) else some (Sum.inl (⟨11, (i : Int)⟩ : S26))) = _
    rw [if_neg]
    rw [B_beq, decide_eq_true_eq]
    intro hz
    have hz : t.drop a = [] := hz
    rw [hz] at hdl
    simp at hdl
    omega
   ·obtain ⟨k, hk, hkl⟩ := index_nat hix
    simp only [List.length_cons, List.length_nil] at hkl
    have hb : behindL t [10] a = ((a + k : Nat) : Int) := by
     unfold behindL
     rw [if_neg hix, hk]; omega
    rw [hb, if_neg (by omega), ssubB (by omega) (by omega)] at e0
    simp only at e0
    rw [show a + k - a = k by omega] at e0
    obtain ⟨z, hz⟩ : ∃ z, t.length - a = z + 1 := ⟨t.length - a - 1, by omega⟩
    have ep : pcs 10 (t.length - a) (t.drop a) = (t.drop a).take k :: pcs 10 (t.length - (a + k + 1)) (t.drop (a + k + 1)) := by
     have e1 : pcs 10 (z + 1) (t.drop a) = (t.drop a).take k :: pcs 10 z ((t.drop a).drop (k + 1)) := by
      show (if index (t.drop a) [10] = -1 then _ else _) = _
      rw [if_neg hix, hk]
      rfl
     rw [hz, e1, List.drop_drop, show a + (k + 1) = a + k + 1 by omega, pcs_fuel 10 z (t.length - (a + k + 1)) _ (by rw [List.length_drop]; omega) (by rw [List.length_drop]; omega)]
    obtain ⟨P, Q, hP, hQ, hPQ⟩ := step_rel m hm (i : Int) ((t.drop a).take k) (by rw [List.length_take]; omega) h4
    rw [ep, List.map_cons]
    have ee : Xp.parseL m (i : Int) cl (B ((t.drop a).take k) :: (pcs 10 (t.length - (a + k + 1)) (t.drop (a + k + 1))).map B) = match Xp.stepL m (i : Int) cl (B ((t.drop a).take k)) with
     | none => none
     | some (.inl f) => some (.inl f)
     | some (.inr cl') => Xp.parseL m ((i : Int) + 1) cl' ((pcs 10 (t.length - (a + k + 1)) (t.drop (a + k + 1))).map B) := by
     have hne := pcs_ne 10 (t.length - (a + k + 1)) (t.drop (a + k + 1))
     cases hp : pcs 10 (t.length - (a + k + 1)) (t.drop (a + k + 1)) with
     | nil => exact absurd hp hne
     | cons u v => rfl
    rw [ee, hP]
    rw [hQ] at e0
    rcases hPQ with ⟨f, rfl, rfl⟩ | ⟨c, c', rfl, rfl, hcc⟩
    ·exact ⟨_, _, rfl, e0, .inl ⟨_, rfl, rfl⟩⟩
    ·rw [w64_nat i (by omega), w64_nat (a + k) (by omega)] at e0
     obtain ⟨P, Q, h5, h6, h7⟩ := lines_rel m hm t ht K (a + k + 1) (i + 1) c c' (by omega) (by omega) (by omega) hcc
     refine ⟨P, Q, ?_, by rw [e0]; exact h6, h7⟩
     show Xp.parseL m ((i : Int) + 1) c _ = _
     rw [show (i : Int) + 1 = ((i + 1 : Nat) : Int) by omega]
     exact h5
  ·have ha : a = t.length := by omega
   rw [if_neg (by omega)] at e0
   rw [List.drop_eq_nil_of_le (by omega), pcs_nil]
   refine ⟨.inr cl, _, ?_, e0, .inr ⟨_, _, rfl, rfl, h4⟩⟩
   show (if ((B []).toList == (⟨#[]⟩ : ByteArray).toList) = true then some (Sum.inr cl) else some (Sum.inl (⟨11, (i : Int)⟩ : S26))) = _
   exact if_pos (by rw [B_beq]; rfl)
theorem parse_eq (a : ByteArray) : f4 5000 a = some true := by
 have hm : 4001 < 5000 := by omega
 have hM : 4001 < MM := by unfold MM; omega
 obtain ⟨t, rfl⟩ : ∃ t, a = B t := ⟨L a, (B_L a).symm⟩
 have key : ∃ (l l' : S23) (f : S26), f14 5000 (B t) = some (l, f) ∧ f15 5000 (B t) = some (l', f) ∧ f16 5000 l l' = some true := by
  show ∃ (l l' : S23) (f : S26), Xp.f14 MM (B t) = some (l, f) ∧ Xq.f15 MM (B t) = some (l', f) ∧ Xl.f16 MM l l' = some true
  have hnil : Xl.f16 MM (⟨[]⟩ : S23) (⟨[]⟩ : S23) = some true := rfl
  by_cases hbig : ((B t).size : Int) > 4000
  ·refine ⟨⟨[]⟩, ⟨[]⟩, ⟨1, -1⟩, ?_, ?_, hnil⟩
   ·unfold Xp.f14; rw [if_pos hbig]
   ·unfold Xq.f15; rw [if_pos hbig]
  ·have htl : t.length ≤ 4000 := by rw [B_size] at hbig; omega
   have hsp : f28 MM (B t) (⟨#[10]⟩ : ByteArray) = some ((pcs 10 t.length t).map B) := splitQ_pcs 10 t htl t.length (Nat.le_refl _)
   have hcount : ((pcs 10 t.length t).map B).length ≤ 1000000 := by
    have h1 : splitQ (B t) (B [10]) = some ((pcs 10 t.length t).map B) := hsp
    have hlen : ∀ (K : Nat) (t : List UInt8), (pcs 10 K t).length ≤ K + 1 := by
     intro K
     induction K with
     | zero => intro t; simp [pcs]
     | succ K ih =>
      intro t
      unfold pcs
      split
      ·simp
      ·have := ih (t.drop ((index t [10]).toNat + 1))
       rw [List.length_cons]; omega
    have := hlen t.length t
    rw [List.length_map]; omega
   obtain ⟨P, Q, hP, hQ, hPQ⟩ := lines_rel MM hM t htl 5000 0 0 [] [] (Nat.zero_le _) (by omega) (Nat.le_refl _) .nil
   rw [List.drop_zero, Nat.sub_zero] at hP
   have hP : Xp.parseL MM 0 [] ((pcs 10 t.length t).map B) = some P := hP
   have hQ : Xq.lofL MM (B t) 5000 0 0 [] = some Q := hQ
   unfold Xp.f14 Xq.f15
   rw [if_neg hbig, if_neg hbig, hsp, hQ]
   simp only
   rw [if_pos hcount, hP]
   rcases hPQ with ⟨f, rfl, rfl⟩ | ⟨c, c', rfl, rfl, hcc⟩
   ·exact ⟨_, _, _, rfl, rfl, hnil⟩
   ·simp only
    have h11 := f11_eq MM (⟨c⟩ : S23) hM
    have h7 := f7_eq MM (⟨c'⟩ : S23) hM
    rw [h11, h7]
    show ∃ (l l' : S23) (f : S26), (if (lexF c).fCode = 0 ∧ (lexF c).fIndex = 0 then some ((⟨c⟩ : S23), (⟨0, 0⟩ : S26)) else some (⟨[]⟩, lexF c)) = some (l, f) ∧ (if (lexF c').fCode = 0 ∧ (lexF c').fIndex = 0 then some ((⟨c'⟩ : S23), (⟨0, 0⟩ : S26)) else some (⟨[]⟩, lexF c')) = some (l', f) ∧ Xl.f16 MM l l' = some true
    rw [← lexF_same hcc]
    by_cases h0 : (lexF c).fCode = 0 ∧ (lexF c).fIndex = 0
    ·rw [if_pos h0, if_pos h0]
     have hv := lexV_of h0.1
     have hcc : c = c' := cls_eq_of (n := c.length) (by have := hv.len; omega) hcc hv.item
     subst hcc
     exact ⟨_, _, _, rfl, rfl, lex_self MM c hv (by unfold MM; omega)⟩
    ·rw [if_neg h0, if_neg h0]
     exact ⟨_, _, _, rfl, rfl, hnil⟩
 obtain ⟨l, l', f, h1, h2, h3⟩ := key
 unfold f4
 rw [told_eq 5000 hm, bnd_some', Bool.not_true, cnd_false, h1, bnd_some', h2, bnd_some']
 show bnd (cnd ((f.fCode == f.fCode) && ((f.fIndex == f.fIndex) && true)) (bnd (f16 5000 l l') fun v12 => some v12) (some false)) _ = _
 rw [beq_self_eq_true, beq_self_eq_true, Bool.and_true, Bool.and_self, cnd_true, h3]
 rfl
end Go.Abs.Lx
