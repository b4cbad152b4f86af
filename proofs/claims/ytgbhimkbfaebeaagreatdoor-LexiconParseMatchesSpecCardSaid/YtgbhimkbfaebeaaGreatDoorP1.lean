import Derived.Test.YtgbhimkbfaebeaaGreatDoorXI
namespace Go.Abs.Lx
open Go.Lib
set_option linter.unusedVariables false
set_option linter.unusedSimpArgs false
set_option linter.unnecessarySimpa false
theorem pfx_self (p r : List UInt8) : p.isPrefixOf (p ++ r) = true := by
 induction p with
 | nil => rfl
 | cons a t ih => simp [List.isPrefixOf, ih]
theorem index_pre (c : UInt8) (t rest : List UInt8) : ∀ (pre : List UInt8), c ∉ pre → index (pre ++ ((c :: t) ++ rest)) (c :: t) = (pre.length : Int)
 | [], _ => by
  show index (c :: (t ++ rest)) (c :: t) = 0
  unfold index
  rw [if_pos (by simpa using pfx_self (c :: t) rest)]
 | b :: p, h => by
  have hb : b ≠ c := fun e => h (by rw [e]; exact List.mem_cons_self)
  have ih := index_pre c t rest p (fun hm => h (List.mem_cons_of_mem _ hm))
  show index (b :: (p ++ ((c :: t) ++ rest))) (c :: t) = _
  unfold index
  rw [ih, if_neg (by simp [List.isPrefixOf, Ne.symm hb]), if_neg (by simp)]
  simp
theorem index_no (c : UInt8) (t : List UInt8) : ∀ (l : List UInt8), c ∉ l → index l (c :: t) = -1
 | [], _ => rfl
 | b :: l, h => by
  have hb : b ≠ c := fun e => h (by rw [e]; exact List.mem_cons_self)
  unfold index
  rw [index_no c t l (fun hm => h (List.mem_cons_of_mem _ hm)), if_neg (by simp [List.isPrefixOf, Ne.symm hb])]
  rfl
theorem cut_pre (c : UInt8) (t rest pre : List UInt8) (h : c ∉ pre) : Lib.cut (pre ++ ((c :: t) ++ rest)) (c :: t) = (pre, rest, true) := by
 unfold Lib.cut
 rw [index_pre c t rest pre h, if_pos (by omega)]
 simp only [Int.toNat_natCast]
 rw [List.take_left, ← List.append_assoc, List.drop_left' (by simp)]
theorem splitK_join (c : UInt8) : ∀ (ps : List (List UInt8)) (p : List UInt8), (∀ q ∈ p :: ps, c ∉ q) → splitK [c] 0 ps.length ([c].intercalate (p :: ps)) = p :: ps
 | [], p, _ => by simp [splitK, List.intercalate]
 | q :: ps, p, h => by
  have h1 := h p List.mem_cons_self
  have e : [c].intercalate (p :: q :: ps) = p ++ ([c] ++ [c].intercalate (q :: ps)) := by simp [List.intercalate, List.intersperse]
  rw [e]
  show (if index (p ++ ([c] ++ [c].intercalate (q :: ps))) [c] == -1 then _ else _) = _
  rw [index_pre c [] _ p h1, if_neg (by simp)]
  simp only [Int.toNat_natCast, Nat.add_zero]
  rw [List.take_left, ← List.append_assoc, List.drop_left' (by simp), splitK_join c ps q (fun z hz => h z (List.mem_cons_of_mem _ hz))]
theorem count_join (c : UInt8) : ∀ (ps : List (List UInt8)) (p : List UInt8) (fuel : Nat), (∀ q ∈ p :: ps, c ∉ q) → ps.length < fuel → countFrom [c] fuel ([c].intercalate (p :: ps)) = ps.length
 | [], p, fuel + 1, h, _ => by
  have e : [c].intercalate [p] = p := by simp [List.intercalate]
  unfold countFrom
  rw [e, index_no c [] p (h p List.mem_cons_self)]
  rfl
 | q :: ps, p, fuel + 1, h, hf => by
  have h1 := h p List.mem_cons_self
  have e : [c].intercalate (p :: q :: ps) = p ++ ([c] ++ [c].intercalate (q :: ps)) := by simp [List.intercalate, List.intersperse]
  unfold countFrom
  rw [e, index_pre c [] _ p h1, if_neg (by simp)]
  simp only [Int.toNat_natCast]
  rw [← List.append_assoc, List.drop_left' (by simp), count_join c ps q fuel (fun z hz => h z (List.mem_cons_of_mem _ hz)) (by simp at hf; omega)]
  simp
  omega
theorem len_join (c : UInt8) : ∀ (ps : List (List UInt8)) (p : List UInt8), ps.length ≤ ([c].intercalate (p :: ps)).length
 | [], p => Nat.zero_le _
 | q :: ps, p => by
  have e : [c].intercalate (p :: q :: ps) = p ++ ([c] ++ [c].intercalate (q :: ps)) := by simp [List.intercalate, List.intersperse]
  have := len_join c ps q
  rw [e]
  simp
  omega
theorem parse_snoc : ∀ (l : List UInt8) (a : Nat) (c : UInt8), parseUint10 a (l ++ [c]) = match parseUint10 a l with
  | .ok v => parseUint10 v [c]
  | e => e
 | [], a, c => by simp [parseUint10]
 | b :: l, a, c => by
  show parseUint10 a (b :: (l ++ [c])) = _
  unfold parseUint10
  split
  ·split
   ·rfl
   ·split
    ·rfl
    ·exact parse_snoc l _ c
  ·rfl
theorem digit_nat {k : Nat} (h : k < 10) : (UInt8.ofNat (48 + k)).toNat = 48 + k := by
 rw [UInt8.toNat_ofNat']
 omega
theorem parse_one {a k : Nat} (h : k < 10) (hb : a * 10 + k < 18446744073709551616) : parseUint10 a [UInt8.ofNat (48 + k)] = .ok (a * 10 + k) := by
 unfold parseUint10
 rw [digit_nat h, if_pos (by omega), if_neg (by omega), if_neg (by omega)]
 unfold parseUint10
 congr 1
 omega
theorem parse_dec (u : Nat) : u < 18446744073709551616 → parseUint10 0 (decDigits u) = .ok u := by
 induction u using Nat.strongRecOn with
 | _ u ih =>
  intro hu
  rw [decDigits]
  split
  ·rename_i h
   rw [parse_one h (by omega)]
   congr 1
   omega
  ·rename_i h
   rw [parse_snoc, ih (u / 10) (by omega) (by omega)]
   show parseUint10 (u / 10) [UInt8.ofNat (48 + u % 10)] = _
   rw [parse_one (by omega) (by omega)]
   congr 1
   omega
theorem dec_digit (u : Nat) : ∀ c ∈ decDigits u, 48 ≤ c.toNat ∧ c.toNat ≤ 57 := by
 induction u using Nat.strongRecOn with
 | _ u ih =>
  intro c hc
  rw [decDigits] at hc
  split at hc
  ·rename_i h
   rw [List.mem_singleton.1 hc, digit_nat h]
   omega
  ·rename_i h
   rcases List.mem_append.1 hc with hc | hc
   ·exact ih (u / 10) (by omega) c hc
   ·rw [List.mem_singleton.1 hc, digit_nat (by omega)]
    omega
theorem dec_ne (u : Nat) : decDigits u ≠ [] := by
 intro h
 have := decDigits_length u
 rw [h] at this
 have := nDigits_pos u
 simp at *
 omega
theorem mag_dec {u : Nat} (h : u < 18446744073709551616) : parseMag (decDigits u) = .ok u := by
 unfold parseMag
 rw [if_neg (dec_ne u), parse_dec u h]
theorem atoi_itoa {n : Int} (h : -9223372036854775808 ≤ n ∧ n ≤ 9223372036854775807) : atoiAll (itoa n) = .ok n := by
 unfold itoa
 split
 ·rename_i hn
  unfold atoiAll
  have e45 : (45 : UInt8).toNat = 45 := rfl
  simp only [e45]
  rw [if_pos (by simp), mag_dec (by omega)]
  simp only [not_true_eq_false, false_and, if_false, true_and]
  rw [if_neg (by omega)]
  simp
  omega
 ·rename_i hn
  obtain ⟨c, r, hc⟩ := List.exists_cons_of_ne_nil (dec_ne n.toNat)
  have hd := dec_digit n.toNat c (by rw [hc]; exact List.mem_cons_self)
  have hm : parseMag (c :: r) = .ok n.toNat := by rw [← hc]; exact mag_dec (by omega)
  rw [hc]
  unfold atoiAll
  simp only
  rw [if_neg (by omega), hm]
  simp only
  rw [if_neg (by omega), if_neg (by omega), if_neg (by omega)]
  congr 1
  omega
theorem intI_itoa (n : Int) : intI n = (itoa n).map fun c => (c.toNat : Int) := by
 unfold intI itoa
 split
 ·rename_i h
  have : (-n).toNat = n.natAbs := by omega
  rw [this]
  rfl
 ·rfl
theorem itoa_chars (n : Int) : ∀ c ∈ itoa n, c = 45 ∨ (48 ≤ c.toNat ∧ c.toNat ≤ 57) := by
 unfold itoa
 split
 ·intro c hc
  rcases List.mem_cons.1 hc with hc | hc
  ·exact .inl hc
  ·exact .inr (dec_digit _ c hc)
 ·exact fun c hc => .inr (dec_digit _ c hc)
end Go.Abs.Lx
