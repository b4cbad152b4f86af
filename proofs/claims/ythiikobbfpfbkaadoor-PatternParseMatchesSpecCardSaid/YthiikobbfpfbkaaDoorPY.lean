import Derived.Test.YthiikobbfpfbkaaDoorPX
namespace Go.Abs
open Go.Sort Go.Proofs
set_option linter.unusedVariables false
set_option maxRecDepth 100000
theorem byt_bytN (s : ByteArray) : byt s = (bytN s).map fun n : Nat => (n : Int) := by unfold byt bytN; rw [List.map_map]; rfl
theorem byt_get (s : ByteArray) (i k : Nat) : sidx s ((i + k : Nat) : Int) = (((bytN s).drop i)[k]?).map fun n : Nat => (n : Int) := by
 rw [sidx_get, byt_bytN, List.getElem?_map, List.getElem?_drop]
def conts : Nat → List Nat → Nat → Option Nat
 | v, _, 0 => some v
 | v, b :: l, d + 1 => if 128 ≤ b ∧ b ≤ 191 then conts (v * 64 + (b - 128)) l d else none
 | v, [], d + 1 => none
def BB : Nat → Nat
 | 3 => 100
 | 2 => 6500
 | 1 => 420000
 | _ => 27000000
theorem BB_step (d : Nat) (hd : d + 1 ≤ 3) : BB (d + 1) * 64 + 63 ≤ BB d := by
 have : d = 0 ∨ d = 1 ∨ d = 2 := by omega
 rcases this with rfl | rfl | rfl <;> decide
theorem BB_le (d : Nat) : BB d ≤ 27000000 := by
 match d with
 | 0 => decide
 | 1 => decide
 | 2 => decide
 | 3 => decide
 | d + 4 => exact Nat.le_refl _
def fin (n : Nat) : Option Nat → Int
 | some r => if (r < 55296 ∨ (57344 ≤ r ∧ r ≤ 1114111)) ∧ (if r < 128 then 1 else if r < 2048 then 2 else if r < 65536 then 3 else 4) = n then (r : Int) else -1
 | none => -1
set_option maxRecDepth 100000 in
def oneS (l : List Nat) : Int := match oneN l with
 | some (p, _) => (p : Int)
 | none => -1
theorem lead4 (b0 : Nat) (h : 240 ≤ b0 ∧ b0 < 256) : ∀ rest : List Nat, (if 3 ≤ rest.length then fin 4 (conts (b0 - 240) rest 3) else -1) = oneS (b0 :: rest)
 | [] => by
  have : oneN [b0] = none := by simp only [oneN]; rw [if_neg (by omega), if_neg (by omega), if_neg (by omega), if_neg (by omega)]; split <;> rfl
  unfold oneS; rw [this]; rfl
 | [x] => by
  have : oneN [b0, x] = none := by simp only [oneN]; rw [if_neg (by omega), if_neg (by omega), if_neg (by omega), if_neg (by omega)]; split <;> rfl
  unfold oneS; rw [this]; rfl
 | [x, y] => by
  have : oneN [b0, x, y] = none := by simp only [oneN]; rw [if_neg (by omega), if_neg (by omega), if_neg (by omega), if_neg (by omega)]; split <;> rfl
  unfold oneS; rw [this]; rfl
 | x :: y :: z :: r => by
  rw [if_pos (by simp only [List.length_cons]; omega)]
  have e : oneN (b0 :: x :: y :: z :: r) = if b0 < 245 then (if (128 ≤ x ∧ x ≤ 191) ∧ (128 ≤ y ∧ y ≤ 191) ∧ (128 ≤ z ∧ z ≤ 191) ∧ 65536 ≤ (b0 - 240) * 262144 + (x - 128) * 4096 + (y - 128) * 64 + (z - 128) ∧ (b0 - 240) * 262144 + (x - 128) * 4096 + (y - 128) * 64 + (z - 128) ≤ 1114111 then some ((b0 - 240) * 262144 + (x - 128) * 4096 + (y - 128) * 64 + (z - 128), 4) else none) else none := by
   simp only [oneN]; rw [if_neg (by omega), if_neg (by omega), if_neg (by omega), if_neg (by omega)]
  have e2 : conts (b0 - 240) (x :: y :: z :: r) 3 = if (128 ≤ x ∧ x ≤ 191) ∧ (128 ≤ y ∧ y ≤ 191) ∧ (128 ≤ z ∧ z ≤ 191) then some ((((b0 - 240) * 64 + (x - 128)) * 64 + (y - 128)) * 64 + (z - 128)) else none := by
   simp only [conts]
   by_cases h1 : 128 ≤ x ∧ x ≤ 191
   ·by_cases h2 : 128 ≤ y ∧ y ≤ 191
    ·by_cases h3 : 128 ≤ z ∧ z ≤ 191
     ·rw [if_pos h1, if_pos h2, if_pos h3, if_pos ⟨h1, h2, h3⟩]
     ·rw [if_pos h1, if_pos h2, if_neg h3, if_neg (fun h => h3 h.2.2)]
    ·rw [if_pos h1, if_neg h2, if_neg (fun h => h2 h.2.1)]
   ·rw [if_neg h1, if_neg (fun h => h1 h.1)]
  unfold oneS
  rw [e, e2]
  by_cases hc : (128 ≤ x ∧ x ≤ 191) ∧ (128 ≤ y ∧ y ≤ 191) ∧ (128 ≤ z ∧ z ≤ 191)
  ·rw [if_pos hc]
   have e3 : (((b0 - 240) * 64 + (x - 128)) * 64 + (y - 128)) * 64 + (z - 128) = (b0 - 240) * 262144 + (x - 128) * 4096 + (y - 128) * 64 + (z - 128) := by omega
   rw [e3]
   by_cases hr : 65536 ≤ (b0 - 240) * 262144 + (x - 128) * 4096 + (y - 128) * 64 + (z - 128) ∧ (b0 - 240) * 262144 + (x - 128) * 4096 + (y - 128) * 64 + (z - 128) ≤ 1114111
   ·rw [if_pos (by omega), if_pos ⟨hc.1, hc.2.1, hc.2.2, hr⟩]
    simp only [fin]
    rw [if_neg (by omega : ¬ (b0 - 240) * 262144 + (x - 128) * 4096 + (y - 128) * 64 + (z - 128) < 128), if_neg (by omega : ¬ (b0 - 240) * 262144 + (x - 128) * 4096 + (y - 128) * 64 + (z - 128) < 2048), if_neg (by omega : ¬ (b0 - 240) * 262144 + (x - 128) * 4096 + (y - 128) * 64 + (z - 128) < 65536), if_pos ⟨by omega, rfl⟩]
   ·have hn : (if b0 < 245 then (if (128 ≤ x ∧ x ≤ 191) ∧ (128 ≤ y ∧ y ≤ 191) ∧ (128 ≤ z ∧ z ≤ 191) ∧ 65536 ≤ (b0 - 240) * 262144 + (x - 128) * 4096 + (y - 128) * 64 + (z - 128) ∧ (b0 - 240) * 262144 + (x - 128) * 4096 + (y - 128) * 64 + (z - 128) ≤ 1114111 then some ((b0 - 240) * 262144 + (x - 128) * 4096 + (y - 128) * 64 + (z - 128), 4) else none) else none : Option (Nat × Nat)) = none := by
     split
     ·rw [if_neg (fun h => hr h.2.2.2)]
     ·rfl
    rw [hn]
    simp only [fin]
    refine if_neg fun hh => hr ?_
    obtain ⟨h1, h2⟩ := hh
    split at h2
    ·omega
    ·split at h2
     ·omega
     ·split at h2
      ·omega
      ·omega
  ·rw [if_neg hc]
   have hn : (if b0 < 245 then (if (128 ≤ x ∧ x ≤ 191) ∧ (128 ≤ y ∧ y ≤ 191) ∧ (128 ≤ z ∧ z ≤ 191) ∧ 65536 ≤ (b0 - 240) * 262144 + (x - 128) * 4096 + (y - 128) * 64 + (z - 128) ∧ (b0 - 240) * 262144 + (x - 128) * 4096 + (y - 128) * 64 + (z - 128) ≤ 1114111 then some ((b0 - 240) * 262144 + (x - 128) * 4096 + (y - 128) * 64 + (z - 128), 4) else none) else none : Option (Nat × Nat)) = none := by
    split
    ·rw [if_neg (fun h => hc ⟨h.1, h.2.1, h.2.2.1⟩)]
    ·rfl
   rw [hn]; rfl
theorem lead3 (b0 : Nat) (h : 224 ≤ b0 ∧ b0 < 240) : ∀ rest : List Nat, (if 2 ≤ rest.length then fin 3 (conts (b0 - 224) rest 2) else -1) = oneS (b0 :: rest)
 | [] => by
  have : oneN [b0] = none := by simp only [oneN]; rw [if_neg (by omega), if_neg (by omega), if_neg (by omega), if_pos h.2]
  unfold oneS; rw [this]; rfl
 | [x] => by
  have : oneN [b0, x] = none := by simp only [oneN]; rw [if_neg (by omega), if_neg (by omega), if_neg (by omega), if_pos h.2]
  unfold oneS; rw [this]; rfl
 | x :: y :: r => by
  rw [if_pos (by simp only [List.length_cons]; omega)]
  have e : oneN (b0 :: x :: y :: r) = if (128 ≤ x ∧ x ≤ 191) ∧ (128 ≤ y ∧ y ≤ 191) ∧ 2048 ≤ (b0 - 224) * 4096 + (x - 128) * 64 + (y - 128) ∧ ((b0 - 224) * 4096 + (x - 128) * 64 + (y - 128) < 55296 ∨ 57344 ≤ (b0 - 224) * 4096 + (x - 128) * 64 + (y - 128)) then some ((b0 - 224) * 4096 + (x - 128) * 64 + (y - 128), 3) else none := by
   simp only [oneN]; rw [if_neg (by omega), if_neg (by omega), if_neg (by omega), if_pos h.2]
  have e2 : conts (b0 - 224) (x :: y :: r) 2 = if (128 ≤ x ∧ x ≤ 191) ∧ (128 ≤ y ∧ y ≤ 191) then some (((b0 - 224) * 64 + (x - 128)) * 64 + (y - 128)) else none := by
   simp only [conts]
   by_cases h1 : 128 ≤ x ∧ x ≤ 191
   ·by_cases h2 : 128 ≤ y ∧ y ≤ 191
    ·rw [if_pos h1, if_pos h2, if_pos ⟨h1, h2⟩]
    ·rw [if_pos h1, if_neg h2, if_neg (fun h => h2 h.2)]
   ·rw [if_neg h1, if_neg (fun h => h1 h.1)]
  unfold oneS
  rw [e, e2]
  by_cases hc : (128 ≤ x ∧ x ≤ 191) ∧ (128 ≤ y ∧ y ≤ 191)
  ·rw [if_pos hc]
   have e3 : ((b0 - 224) * 64 + (x - 128)) * 64 + (y - 128) = (b0 - 224) * 4096 + (x - 128) * 64 + (y - 128) := by omega
   rw [e3]
   by_cases hr : 2048 ≤ (b0 - 224) * 4096 + (x - 128) * 64 + (y - 128) ∧ ((b0 - 224) * 4096 + (x - 128) * 64 + (y - 128) < 55296 ∨ 57344 ≤ (b0 - 224) * 4096 + (x - 128) * 64 + (y - 128))
   ·rw [if_pos ⟨hc.1, hc.2, hr⟩]
    simp only [fin]
    rw [if_neg (by omega : ¬ (b0 - 224) * 4096 + (x - 128) * 64 + (y - 128) < 128), if_neg (by omega : ¬ (b0 - 224) * 4096 + (x - 128) * 64 + (y - 128) < 2048), if_pos (by omega : (b0 - 224) * 4096 + (x - 128) * 64 + (y - 128) < 65536), if_pos ⟨by omega, rfl⟩]
   ·rw [if_neg (fun h => hr h.2.2)]
    simp only [fin]
    refine if_neg fun hh => hr ?_
    obtain ⟨h1, h2⟩ := hh
    split at h2
    ·omega
    ·split at h2
     ·omega
     ·split at h2
      ·omega
      ·omega
  ·rw [if_neg hc, if_neg (fun h => hc ⟨h.1, h.2.1⟩)]; rfl
theorem lead2 (b0 : Nat) (h : 192 ≤ b0 ∧ b0 < 224) : ∀ rest : List Nat, (if 1 ≤ rest.length then fin 2 (conts (b0 - 192) rest 1) else -1) = oneS (b0 :: rest)
 | [] => by
  have : oneN [b0] = none := by
   simp only [oneN]; rw [if_neg (by omega)]
   split
   ·rfl
   ·rw [if_pos h.2]
  unfold oneS; rw [this]; rfl
 | x :: r => by
  rw [if_pos (by simp only [List.length_cons]; omega)]
  have e : oneN (b0 :: x :: r) = if b0 < 194 then none else if 128 ≤ x ∧ x ≤ 191 then some ((b0 - 192) * 64 + (x - 128), 2) else none := by
   simp only [oneN]; rw [if_neg (by omega), if_pos h.2]
  have e2 : conts (b0 - 192) (x :: r) 1 = if 128 ≤ x ∧ x ≤ 191 then some ((b0 - 192) * 64 + (x - 128)) else none := by simp only [conts]
  unfold oneS
  rw [e, e2]
  by_cases hc : 128 ≤ x ∧ x ≤ 191
  ·rw [if_pos hc, if_pos hc]
   by_cases hr : b0 < 194
   ·rw [if_pos hr]
    simp only [fin]
    rw [if_pos (by omega : (b0 - 192) * 64 + (x - 128) < 128), if_neg (fun h => by cases h.2)]
   ·rw [if_neg hr]
    simp only [fin]
    rw [if_neg (by omega : ¬ (b0 - 192) * 64 + (x - 128) < 128), if_pos (by omega : (b0 - 192) * 64 + (x - 128) < 2048), if_pos ⟨by omega, rfl⟩]
  ·rw [if_neg hc, if_neg hc]
   have : (if b0 < 194 then none else none : Option (Nat × Nat)) = none := by split <;> rfl
   rw [this]; rfl
theorem f48_eq (m : Nat) (l : List Nat) (p w : Nat) (h : oneN l = some (p, w)) : f48 m (p : Int) = some (w : Int) := by
 obtain ⟨h1, h2, h3, h4, h5, h6, h7, h8⟩ := oneN_w h
 have hw : w = 1 ∨ w = 2 ∨ w = 3 ∨ w = 4 := by omega
 unfold f48
 rcases hw with rfl | rfl | rfl | rfl
 ·have := h5 rfl
  rw [decide_eq_true (by omega)]; rfl
 ·have := h6 rfl
  rw [decide_eq_false (by omega), decide_eq_true (by omega)]; rfl
 ·have := h7 rfl
  rw [decide_eq_false (by omega), decide_eq_false (by omega), decide_eq_true (by omega)]; rfl
 ·have := h8 rfl
  rw [decide_eq_false (by omega), decide_eq_false (by omega), decide_eq_false (by omega)]; rfl
theorem f47_loop (m : Nat) (s : ByteArray) (i n : Nat) (hn : i + n ≤ s.size) (hs : s.size ≤ 4000) : ∀ (d K k v : Nat), k + d = n → d < K → d ≤ 3 → v ≤ BB d →
  iter (fun (y : Int × Int) => f47_B2 m s (i : Int) (n : Int) y.1 y.2) K ((v : Int), (k : Int)) = match conts v ((bytN s).drop (i + k)) d with
   | some r => some (.inr ((r : Int), (n : Int)))
   | none => some (.inl (-1))
 | d, 0, k, v, h1, h2, h3, h4 => by omega
 | 0, K + 1, k, v, h1, h2, h3, h4 => by
  have hk : k = n := by omega
  subst hk
  have e0 : f47_B2 m s (i : Int) (k : Int) (v : Int) (k : Int) = some (.brk ((v : Int), (k : Int))) := by
   unfold f47_B2
   rw [decide_eq_false (by omega), cnd_false]
  unfold iter
  simp only [e0, conts]
 | d + 1, K + 1, k, v, h1, h2, h3, h4 => by
  have hlt : i + k < s.size := by omega
  have hl : i + k < (bytN s).length := by rw [bytN_len]; exact hlt
  have hb := bytN_lt s ((bytN s)[i + k]) (List.getElem_mem hl)
  have hw1 : w64 ((i : Int) + (k : Int)) = ((i + k : Nat) : Int) := by rw [w64_id ⟨by omega, by omega⟩]; omega
  have hw2 : w64 ((k : Int) + 1) = ((k + 1 : Nat) : Int) := by rw [w64_id ⟨by omega, by omega⟩]; omega
  have hx : sidx s ((i + k : Nat) : Int) = some (((bytN s)[i + k] : Nat) : Int) := by
   have := byt_get s (i + k) 0
   rw [Nat.add_zero] at this
   rw [this, List.getElem?_drop, Nat.add_zero, List.getElem?_eq_getElem hl]; rfl
  rw [List.drop_eq_getElem_cons hl]
  generalize (bytN s)[i + k] = b at *
  have hw3 : w64 (b : Int) = (b : Int) := w64_id ⟨by omega, by omega⟩
  have hB := BB_step d h3
  have hBl := BB_le d
  simp only [conts]
  by_cases hc : 128 ≤ b ∧ b ≤ 191
  ·have hw4 : w64 ((v : Int) * 64) = ((v * 64 : Nat) : Int) := by rw [w64_id ⟨by omega, by omega⟩]; omega
   have hw5 : w64 (((v * 64 : Nat) : Int) + (b : Int)) = ((v * 64 + b : Nat) : Int) := by rw [w64_id ⟨by omega, by omega⟩]; omega
   have hw6 : w64 (((v * 64 + b : Nat) : Int) - 128) = ((v * 64 + (b - 128) : Nat) : Int) := by rw [w64_id ⟨by omega, by omega⟩]; omega
   have e0 : f47_B2 m s (i : Int) (n : Int) (v : Int) (k : Int) = some (.nxt (((v * 64 + (b - 128) : Nat) : Int), ((k + 1 : Nat) : Int))) := by
    unfold f47_B2
    rw [decide_eq_true (by omega), cnd_true, hw1, hx]
    simp only [bnd_some', f47_r1, hw3, hw4, hw5, hw6, hw2]
    rw [decide_eq_false (by omega), decide_eq_false (by omega)]
    rfl
   have ih := f47_loop m s i n hn hs d K (k + 1) (v * 64 + (b - 128)) (by omega) (by omega) (by omega) (by omega)
   rw [if_pos hc]
   unfold iter
   simp only [e0]
   exact ih
  ·have e0 : f47_B2 m s (i : Int) (n : Int) (v : Int) (k : Int) = some (.ret (-1)) := by
    unfold f47_B2
    rw [decide_eq_true (by omega), cnd_true, hw1, hx]
    simp only [bnd_some', f47_r1, hw3]
    have : (decide ((b : Int) < 128) || decide ((b : Int) > 191)) = true := by
     simp only [Bool.or_eq_true, decide_eq_true_eq]; omega
    rw [this]
    rfl
   rw [if_neg hc]
   unfold iter
   simp only [e0]
theorem f47_j4_eq (m : Nat) (s : ByteArray) (i n v : Nat) (h1 : 1 ≤ n) (h4 : n ≤ 4) (hv : v ≤ BB (n - 1)) (hi : i < s.size) (hs : s.size ≤ 4000) (hm : 5 < m) :
  f47_j4 m s (i : Int) (n : Int) (v : Int) = some (if i + n ≤ s.size then fin n (conts v ((bytN s).drop (i + 1)) (n - 1)) else -1) := by
 unfold f47_j4
 have hw1 : w64 ((i : Int) + (n : Int)) = ((i + n : Nat) : Int) := by rw [w64_id ⟨by omega, by omega⟩]; omega
 rw [hw1]
 by_cases hn : i + n ≤ s.size
 ·rw [decide_eq_false (by omega), if_pos hn, cnd_false]
  have e := f47_loop m s i n hn hs (n - 1) m 1 v (by omega) (by omega) (by omega) hv
  have e : iter (fun (y : Int × Int) => f47_B2 m s (i : Int) (n : Int) y.1 y.2) m ((v : Int), 1) = _ := e
  rw [e]
  cases hc : conts v ((bytN s).drop (i + 1)) (n - 1) with
  | none => rfl
  | some r =>
   simp only [brk_inr, f42, f42_r2, f42_r1, bnd_some']
   have hsc : (((decide ((r : Int) ≥ 0)) && (decide ((r : Int) < 55296))) || ((decide ((r : Int) > 57343)) && (decide ((r : Int) ≤ 1114111)))) = decide (r < 55296 ∨ (57344 ≤ r ∧ r ≤ 1114111)) := by
    rw [Bool.eq_iff_iff]
    simp only [Bool.or_eq_true, Bool.and_eq_true, decide_eq_true_eq]
    omega
   have hwd : f48 m (r : Int) = some ((if r < 128 then 1 else if r < 2048 then 2 else if r < 65536 then 3 else 4 : Nat) : Int) := by
    unfold f48
    by_cases k1 : r < 128
    ·rw [decide_eq_true (by omega), if_pos k1]; rfl
    ·rw [decide_eq_false (by omega), if_neg k1]
     by_cases k2 : r < 2048
     ·rw [decide_eq_true (by omega), if_pos k2]; rfl
     ·rw [decide_eq_false (by omega), if_neg k2]
      by_cases k3 : r < 65536
      ·rw [decide_eq_true (by omega), if_pos k3]; rfl
      ·rw [decide_eq_false (by omega), if_neg k3]; rfl
   rw [hsc, hwd]
   simp only [fin]
   generalize (if r < 128 then 1 else if r < 2048 then 2 else if r < 65536 then 3 else 4 : Nat) = wd
   by_cases hq : r < 55296 ∨ (57344 ≤ r ∧ r ≤ 1114111)
   ·rw [decide_eq_true hq]
    simp only [Bool.not_true, cnd_false, bnd_some', f47_r3]
    by_cases hwn : wd = n
    ·subst hwn
     have hb : (((wd : Nat) : Int) != ((wd : Nat) : Int)) = false := by simp
     rw [hb, cnd_false, if_pos ⟨hq, rfl⟩]
    ·have hb : (((wd : Nat) : Int) != ((n : Nat) : Int)) = true := by simp only [bne_iff_ne, ne_eq]; omega
     rw [hb, cnd_true, if_neg (fun h => hwn h.2)]
   ·rw [decide_eq_false hq]
    simp only [Bool.not_false, cnd_true, bnd_some', f47_r3]
    rw [if_neg (fun h => hq h.1)]
 ·rw [decide_eq_true (by omega), if_neg hn]; rfl
theorem f47_eq (m : Nat) (s : ByteArray) (i : Nat) (hi : i < s.size) (hs : s.size ≤ 4000) (hm : 5 < m) : f47 m s (i : Int) = some (oneS ((bytN s).drop i)) := by
 have hl : i < (bytN s).length := by rw [bytN_len]; exact hi
 have hb := bytN_lt s ((bytN s)[i]) (List.getElem_mem hl)
 have hx : sidx s (i : Int) = some (((bytN s)[i] : Nat) : Int) := by
  have := byt_get s i 0
  rw [Nat.add_zero] at this
  rw [this, List.getElem?_drop, Nat.add_zero, List.getElem?_eq_getElem hl]; rfl
 have hd := List.drop_eq_getElem_cons hl
 have hrl : ((bytN s).drop (i + 1)).length = s.size - (i + 1) := by rw [List.length_drop, bytN_len]
 rw [hd]
 unfold f47
 rw [hx]
 generalize (bytN s)[i] = b at *
 have hw : w64 (b : Int) = (b : Int) := w64_id ⟨by omega, by omega⟩
 simp only [bnd_some', hw]
 by_cases k4 : 240 ≤ b
 ·rw [decide_eq_true (by omega), cnd_true]
  have hw4 : w64 ((b : Int) - 240) = ((b - 240 : Nat) : Int) := by rw [w64_id ⟨by omega, by omega⟩]; omega
  rw [hw4]
  refine (f47_j4_eq m s i 4 (b - 240) (by omega) (by omega) (by show b - 240 ≤ 100; omega) hi hs hm).trans ?_
  rw [← lead4 b ⟨k4, hb⟩, hrl]
  have : (i + 4 ≤ s.size) = (3 ≤ s.size - (i + 1)) := propext ⟨fun h => by omega, fun h => by omega⟩
  simp only [this]
 rw [decide_eq_false (by omega), cnd_false]
 by_cases k3 : 224 ≤ b
 ·rw [decide_eq_true (by omega), cnd_true]
  have hw4 : w64 ((b : Int) - 224) = ((b - 224 : Nat) : Int) := by rw [w64_id ⟨by omega, by omega⟩]; omega
  rw [hw4]
  refine (f47_j4_eq m s i 3 (b - 224) (by omega) (by omega) (by show b - 224 ≤ 6500; omega) hi hs hm).trans ?_
  rw [← lead3 b ⟨k3, by omega⟩, hrl]
  have : (i + 3 ≤ s.size) = (2 ≤ s.size - (i + 1)) := propext ⟨fun h => by omega, fun h => by omega⟩
  simp only [this]
 rw [decide_eq_false (by omega), cnd_false]
 by_cases k2 : 192 ≤ b
 ·rw [decide_eq_true (by omega), cnd_true]
  have hw4 : w64 ((b : Int) - 192) = ((b - 192 : Nat) : Int) := by rw [w64_id ⟨by omega, by omega⟩]; omega
  rw [hw4]
  refine (f47_j4_eq m s i 2 (b - 192) (by omega) (by omega) (by show b - 192 ≤ 420000; omega) hi hs hm).trans ?_
  rw [← lead2 b ⟨k2, by omega⟩, hrl]
  have : (i + 2 ≤ s.size) = (1 ≤ s.size - (i + 1)) := propext ⟨fun h => by omega, fun h => by omega⟩
  simp only [this]
 rw [decide_eq_false (by omega), cnd_false]
 by_cases k1 : 128 ≤ b
 ·rw [decide_eq_true (by omega), cnd_true]
  unfold oneS
  simp only [oneN]
  rw [if_neg (by omega), if_pos (by omega)]
 ·rw [decide_eq_false (by omega), cnd_false]
  refine (f47_j4_eq m s i 1 b (by omega) (by omega) (by show b ≤ 27000000; omega) hi hs hm).trans ?_
  rw [if_pos (by omega)]
  unfold oneS
  simp only [oneN, conts, fin, Nat.sub_self]
  rw [if_pos (by omega : b < 128), if_pos (by omega : b < 128), if_pos ⟨by omega, rfl⟩]
def dec2 : Nat → List Nat → Nat → List Nat ⊕ Nat
 | 0, _, _ => .inl []
 | n + 1, l, i => match l with
  | [] => .inl []
  | b :: r => match oneN (b :: r) with
   | none => .inr i
   | some (p, w) => match dec2 n ((b :: r).drop w) (i + w) with
    | .inl L => .inl (p :: L)
    | .inr j => .inr j
theorem dec2_bad {n : Nat} {l : List Nat} {i : Nat} (hne : l ≠ []) (h : oneN l = none) : dec2 (n + 1) l i = .inr i := by
 cases l with
 | nil => exact absurd rfl hne
 | cons b r => simp only [dec2, h]
theorem dec2_ok {n : Nat} {l : List Nat} {i p w : Nat} (hne : l ≠ []) (h : oneN l = some (p, w)) : dec2 (n + 1) l i = match dec2 n (l.drop w) (i + w) with
  | .inl L => .inl (p :: L)
  | .inr j => .inr j := by
 cases l with
 | nil => exact absurd rfl hne
 | cons b r => simp only [dec2, h]
def decR (acc : List Int) (n : Nat) : List Nat ⊕ Nat → ((List Int) × S27) ⊕ ((List Int) × Int)
 | .inl L => .inr (acc ++ castL L, (n : Int))
 | .inr j => .inl ([], ⟨5, (j : Int)⟩)
theorem f27_dec (m : Nat) (s : ByteArray) (hs : s.size ≤ 4000) : ∀ (K i : Nat) (acc : List Int), i ≤ s.size → s.size - i < K → acc.length ≤ i →
  iter (fun (y : (List Int) × Int) => f27_B2 m s y.1 y.2) K (acc, (i : Int)) = some (decR acc s.size (dec2 K ((bytN s).drop i) i))
 | 0, i, acc, h1, h2, h3 => by omega
 | K + 1, i, acc, h1, h2, h3 => by
  by_cases hlt : i < s.size
  ·have hne : (bytN s).drop i ≠ [] := fun e => by have := List.drop_eq_nil_iff.1 e; rw [bytN_len] at this; omega
   have hsub : ssub s (i : Int) (s.size : Int) = some (s.extract i s.size) := by
    unfold ssub; rw [if_pos ⟨by omega, by omega, by omega⟩, Int.toNat_natCast, Int.toNat_natCast]
   have hsz : (s.extract i s.size).size = s.size - i := by rw [← bytN_len, bytN_all, List.length_drop, bytN_len]
   have hdec : Lib.decodeGo (s.extract i s.size) = orBad (oneN ((bytN s).drop i)) := by
    unfold Lib.decodeGo
    rw [if_neg (by omega), decode_one _ 0 (by omega), bytN_all, List.drop_zero]
   have e0 : f27_B2 m s acc (i : Int) = f27_r1 m acc (i : Int) (((orBad (oneN ((bytN s).drop i))).1 : Int), ((orBad (oneN ((bytN s).drop i))).2 : Int)) ((((orBad (oneN ((bytN s).drop i))).1 : Int) == 65533) && (decide (((orBad (oneN ((bytN s).drop i))).2 : Int) ≤ 1))) := by
    unfold f27_B2
    rw [decide_eq_true (by omega), cnd_true, hsub]
    simp only [bnd_some', f44, hdec]
   obtain ⟨b, r, hbr⟩ : ∃ b r, (bytN s).drop i = b :: r := by
    cases h : (bytN s).drop i with
    | nil => exact absurd h hne
    | cons b r => exact ⟨b, r, rfl⟩
   cases hq : oneN ((bytN s).drop i) with
   | none =>
    rw [hq] at e0
    rw [dec2_bad hne hq]
    unfold iter
    simp only [e0, orBad]
    rfl
   | some y =>
    obtain ⟨p, w⟩ := y
    rw [hq] at e0
    obtain ⟨g1, g2, g3, g4, g5, _⟩ := oneN_w hq
    rw [List.length_drop, bytN_len] at g3
    have hc : (((p : Int) == 65533) && (decide ((w : Int) ≤ 1))) = false := by
     by_cases hw : w = 1
     ·have := g5 hw
      have : ((p : Int) == 65533) = false := by simp only [beq_eq_false_iff_ne, ne_eq]; omega
      rw [this]; rfl
     ·rw [decide_eq_false (by omega), Bool.and_false]
    have hw1 : w64 (p : Int) = (p : Int) := w64_id ⟨by omega, by omega⟩
    have hw2 : w64 ((i : Int) + (w : Int)) = ((i + w : Nat) : Int) := by rw [w64_id ⟨by omega, by omega⟩]; omega
    have e1 : f27_B2 m s acc (i : Int) = some (.nxt (acc ++ [(p : Int)], ((i + w : Nat) : Int))) := by
     rw [e0]
     show f27_r1 m acc (i : Int) ((p : Int), (w : Int)) (((p : Int) == 65533) && (decide ((w : Int) ≤ 1))) = _
     rw [hc]
     simp only [f27_r1, cnd_false, hw1, hw2]
     rw [app_some 8 acc [(p : Int)] (by simp only [List.length_cons, List.length_nil]; omega) (by simp only [List.length_cons, List.length_nil]; omega)]
     rfl
    have ih := f27_dec m s hs K (i + w) (acc ++ [(p : Int)]) (by omega) (by omega) (by simp only [List.length_append, List.length_cons, List.length_nil]; omega)
    have hd2 : dec2 (K + 1) ((bytN s).drop i) i = match dec2 K ((bytN s).drop (i + w)) (i + w) with
      | .inl L => .inl (p :: L)
      | .inr j => .inr j := by
     rw [dec2_ok hne hq, List.drop_drop]
    unfold iter
    simp only [e1]
    rw [ih, hd2]
    cases dec2 K ((bytN s).drop (i + w)) (i + w) with
    | inl L => simp [decR, castL]
    | inr j => rfl
  ·have hi : i = s.size := by omega
   have hd : (bytN s).drop i = [] := List.drop_eq_nil_iff.2 (by rw [bytN_len]; omega)
   rw [hd]
   unfold iter
   have e0 : f27_B2 m s acc (i : Int) = some (.brk (acc, (i : Int))) := by
    unfold f27_B2
    rw [decide_eq_false (by omega), cnd_false]
   simp only [e0]
   rw [hi]
   simp [castL, decR, dec2]
theorem f29_dec (m : Nat) (hm : 5 < m) (s : ByteArray) (hs : s.size ≤ 4000) : ∀ (K i : Nat) (acc : List Int), i ≤ s.size → s.size - i < K → acc.length ≤ i →
  iter (fun (y : (List Int) × Int) => f29_B1 m s y.1 y.2) K (acc, (i : Int)) = some (decR acc s.size (dec2 K ((bytN s).drop i) i))
 | 0, i, acc, h1, h2, h3 => by omega
 | K + 1, i, acc, h1, h2, h3 => by
  by_cases hlt : i < s.size
  ·have hne : (bytN s).drop i ≠ [] := fun e => by have := List.drop_eq_nil_iff.1 e; rw [bytN_len] at this; omega
   obtain ⟨b, r, hbr⟩ : ∃ b r, (bytN s).drop i = b :: r := by
    cases h : (bytN s).drop i with
    | nil => exact absurd h hne
    | cons b r => exact ⟨b, r, rfl⟩
   have e47 := f47_eq m s i hlt hs hm
   cases hq : oneN ((bytN s).drop i) with
   | none =>
    rw [dec2_bad hne hq]
    have e1 : f29_B1 m s acc (i : Int) = some (.ret ([], ⟨5, (i : Int)⟩)) := by
     unfold f29_B1
     rw [decide_eq_true (by omega), cnd_true, e47, bnd_some']
     simp only [oneS, hq]
     rfl
    unfold iter
    simp only [e1]
    rfl
   | some y =>
    obtain ⟨p, w⟩ := y
    obtain ⟨g1, g2, g3, g4, g5, _⟩ := oneN_w hq
    rw [List.length_drop, bytN_len] at g3
    have hw2 : w64 ((i : Int) + (w : Int)) = ((i + w : Nat) : Int) := by rw [w64_id ⟨by omega, by omega⟩]; omega
    have e1 : f29_B1 m s acc (i : Int) = some (.nxt (acc ++ [(p : Int)], ((i + w : Nat) : Int))) := by
     unfold f29_B1
     rw [decide_eq_true (by omega), cnd_true, e47, bnd_some']
     simp only [oneS, hq]
     rw [decide_eq_false (by omega), cnd_false, app_some 8 acc [(p : Int)] (by simp only [List.length_cons, List.length_nil]; omega) (by simp only [List.length_cons, List.length_nil]; omega), bnd_some', f48_eq m _ p w hq, bnd_some', hw2]
    have ih := f29_dec m hm s hs K (i + w) (acc ++ [(p : Int)]) (by omega) (by omega) (by simp only [List.length_append, List.length_cons, List.length_nil]; omega)
    have hd2 : dec2 (K + 1) ((bytN s).drop i) i = match dec2 K ((bytN s).drop (i + w)) (i + w) with
      | .inl L => .inl (p :: L)
      | .inr j => .inr j := by
     rw [dec2_ok hne hq, List.drop_drop]
    unfold iter
    simp only [e1]
    rw [ih, hd2]
    cases dec2 K ((bytN s).drop (i + w)) (i + w) with
    | inl L => simp [decR, castL]
    | inr j => rfl
  ·have hi : i = s.size := by omega
   have hd : (bytN s).drop i = [] := List.drop_eq_nil_iff.2 (by rw [bytN_len]; omega)
   rw [hd]
   unfold iter
   have e0 : f29_B1 m s acc (i : Int) = some (.brk (acc, (i : Int))) := by
    unfold f29_B1
    rw [decide_eq_false (by omega), cnd_false]
   simp only [e0]
   rw [hi]
   simp [castL, decR, dec2]
theorem decs_same (m : Nat) (hm : 4001 < m) (s : ByteArray) : ∃ o, f27 m s = some o ∧ f29 m s = some o ∧ ((∃ L, o = (castL L, ⟨0, 0⟩) ∧ L.length ≤ 4000) ∨ o.2.fCode ≠ 0) := by
 by_cases hs : s.size ≤ 4000
 ·have h1 := f27_dec m s hs m 0 [] (by omega) (by omega) (Nat.le_refl _)
  have h2 := f29_dec m (by omega) s hs m 0 [] (by omega) (by omega) (Nat.le_refl _)
  have e1 : f27 m s = brk (iter (fun (y : (List Int) × Int) => f27_B2 m s y.1 y.2) m ([], ((0 : Nat) : Int))) some fun y49 => some ((y49.1, (⟨0, 0⟩ : S27))) := by
   unfold f27
   rw [decide_eq_false (by omega), cnd_false]
   rfl
  have e2 : f29 m s = brk (iter (fun (y : (List Int) × Int) => f29_B1 m s y.1 y.2) m ([], ((0 : Nat) : Int))) some fun y49 => some ((y49.1, (⟨0, 0⟩ : S27))) := by
   unfold f29
   rw [decide_eq_false (by omega), cnd_false]
   rfl
  rw [h1] at e1
  rw [h2] at e2
  rw [List.drop_zero] at e1 e2
  have hlen : ∀ (n : Nat) (l : List Nat) (i : Nat) L, dec2 n l i = .inl L → L.length ≤ l.length := by
   intro n
   induction n with
   | zero => intro l i L h; cases h; exact Nat.zero_le _
   | succ n ih =>
    intro l i L h
    unfold dec2 at h
    cases l with
    | nil => cases h; exact Nat.zero_le _
    | cons b r =>
     simp only at h
     cases hq : oneN (b :: r) with
     | none => rw [hq] at h; cases h
     | some y =>
      obtain ⟨p, w⟩ := y
      rw [hq] at h
      simp only at h
      obtain ⟨g1, g2, g3, _⟩ := oneN_w hq
      cases hd : dec2 n ((b :: r).drop w) (i + w) with
      | inr j => rw [hd] at h; cases h
      | inl L' =>
       rw [hd] at h
       cases h
       have := ih _ _ _ hd
       rw [List.length_drop] at this
       rw [List.length_cons]
       omega
  cases hd : dec2 m (bytN s) 0 with
  | inl L =>
   rw [hd] at e1 e2
   exact ⟨_, e1, e2, .inl ⟨L, rfl, by have := hlen _ _ _ _ hd; rw [bytN_len] at this; omega⟩⟩
  | inr j =>
   rw [hd] at e1 e2
   exact ⟨_, e1, e2, .inr (show (5 : Int) ≠ 0 by decide)⟩
 ·refine ⟨([], ⟨1, -1⟩), ?_, ?_, .inr (show (1 : Int) ≠ 0 by decide)⟩
  ·unfold f27
   rw [decide_eq_true (by omega)]
   rfl
  ·unfold f29
   rw [decide_eq_true (by omega)]
   rfl
theorem f32_refl (m : Nat) (l : List Int) (hl : l.length ≤ 300) (hm : 1000 ≤ m) : f32 m l l = some true := by
 have h : ∀ (M i : Nat), i ≤ l.length → l.length < M + i → iter (fun (y : Int) => f32_B1 m l l y) M (i : Int) = some (.inr (l.length : Int)) := by
  intro M
  induction M with
  | zero => intro i h1 h2; omega
  | succ M ih =>
   intro i h1 h2
   have hwi : w64 ((i : Int) + 1) = ((i + 1 : Nat) : Int) := by rw [w64_id ⟨by omega, by omega⟩]; omega
   unfold iter f32_B1
   by_cases hlt : i < l.length
   ·have e1 : idx l (i : Int) = some l[i] := by simp [idx, List.getElem?_eq_getElem hlt]
    rw [decide_eq_true (by omega : (i : Int) < (l.length : Int)), cnd_true, e1, bnd_some', bnd_some', show (l[i] != l[i]) = false by simp, cnd_false, hwi]
    exact ih (i + 1) hlt (by omega)
   ·rw [decide_eq_false (by omega), cnd_false]
    have : i = l.length := by omega
    subst this
    rfl
 unfold f32
 rw [show ((l.length : Int) != (l.length : Int)) = false by simp, cnd_false]
 have := h m 0 (Nat.zero_le _) (by omega)
 have : iter (fun (y : Int) => f32_B1 m l l y) m 0 = some (.inr (l.length : Int)) := this
 rw [this]
 rfl
theorem pat_refl (m : Nat) (hm : 1000 ≤ m) : ∀ (r R : Nat) (p : S24) (n : Nat) (d : Int), r ≤ R → Gd r p n → n ≤ 200 → (r : Int) ≤ d → d ≤ 1000 → (K15 m R).r15 p p d = some true
 | 0, _, _, _, _, _, h, _, _, _ => h.elim
 | r + 1, 0, _, _, _, h, _, _, _, _ => by omega
 | r + 1, R + 1, p, n, d, hR, ⟨⟨⟨l1, l2, l3⟩, hset, hsh⟩, ns, hs, hns⟩, hn, hd, hd2 => by
  have hsum := F2.sum (R := fun q k => Gd r (P24.vw q) k) (fun q k h => h.pos) hs
  have hwd : w64 (d - 1) = d - 1 := w64_id ⟨by omega, by omega⟩
  have h : ∀ (M i : Nat), i ≤ p.fSubs.length → p.fSubs.length < M + i → iter (fun (y : Int) => f15_B1 m (K15 m R) p p d y) M (i : Int) = some (.inr (p.fSubs.length : Int)) := by
   intro M
   induction M with
   | zero => intro i h1 h2; omega
   | succ M ih =>
    intro i h1 h2
    have hwi : w64 ((i : Int) + 1) = ((i + 1 : Nat) : Int) := by rw [w64_id ⟨by omega, by omega⟩]; omega
    unfold iter
    by_cases hlt : i < p.fSubs.length
    ·have e1 : idx p.fSubs (i : Int) = some p.fSubs[i] := by simp [idx, List.getElem?_eq_getElem hlt]
     obtain ⟨k, g1, g2⟩ := hs.mem p.fSubs[i] (List.getElem_mem hlt)
     have hrec := pat_refl m hm r R p.fSubs[i].vw k (d - 1) (by omega) g1 (by omega) (by omega) (by omega)
     have hB : f15_B1 m (K15 m R) p p d (i : Int) = some (.nxt ((i + 1 : Nat) : Int)) := by
      unfold f15_B1
      rw [decide_eq_true (by omega : (i : Int) < (p.fSubs.length : Int)), cnd_true, e1, bnd_some', bnd_some', hwd, hrec, bnd_some', hwi]
      rfl
     rw [hB]
     exact ih (i + 1) hlt (by omega)
    ·have hB : f15_B1 m (K15 m R) p p d (i : Int) = some (.brk (i : Int)) := by
      unfold f15_B1
      rw [decide_eq_false (by omega), cnd_false]
     rw [hB]
     have : i = p.fSubs.length := by omega
     subst this
     rfl
  have h0 := h m 0 (Nat.zero_le _) (by omega)
  have h0 : iter (fun (y : Int) => f15_B1 m (K15 m R) p p d y) m 0 = some (.inr (p.fSubs.length : Int)) := h0
  show b15 m (K15 m R) p p d = some true
  unfold b15 f15_r6 f15_r5 f15_r4 f15_r3 f15_r2
  have e : ((((d == 0) || (p.fKind != p.fKind)) || (p.fLeast != p.fLeast)) || (p.fMost != p.fMost)) = false := by
   have : (d == 0) = false := beq_eq_false_iff_ne.2 (by omega)
   rw [this]
   simp
  rw [e, cnd_false, f32_refl m p.fLabels l1 hm, bnd_some', bnd_some']
  have e2 : ((!true) || ((p.fSubs.length : Int) != (p.fSubs.length : Int))) = false := by simp
  rw [e2, cnd_false, h0]
  rfl
instance (x : Int) : Decidable (okC x) := by unfold okC; infer_instance
def labE : Option Int → List Int → Int
 | _, [] => 0
 | l, x :: r => if okC x then (if l.any (fun y => decide (x ≤ y)) = true then 13 else labE (some x) r) else 3
def lastAt (l : List Int) : Nat → Option Int
 | 0 => none
 | i + 1 => l[i]?
theorem lab_gen {R : Type} (l : List Int) (B : Int → Option (Stp R Int)) (rf : Int → R)
  (hB : ∀ (i : Nat) (x : Int), l[i]? = some x → B (i : Int) = if okC x then (if (lastAt l i).any (fun y => decide (x ≤ y)) = true then some (.ret (rf 13)) else some (.nxt ((i + 1 : Nat) : Int))) else some (.ret (rf 3)))
  (hE : B (l.length : Int) = some (.brk (l.length : Int))) : ∀ (M i : Nat), i ≤ l.length → l.length < M + i →
  iter B M (i : Int) = some (if labE (lastAt l i) (l.drop i) = 0 then .inr (l.length : Int) else .inl (rf (labE (lastAt l i) (l.drop i))))
 | 0, i, h1, h2 => by omega
 | M + 1, i, h1, h2 => by
  unfold iter
  rcases Nat.lt_or_ge i l.length with hlt | hge
  ·have hx := List.getElem?_eq_getElem hlt
   rw [hB i _ hx, List.drop_eq_getElem_cons hlt]
   unfold labE
   by_cases h3 : okC l[i]
   ·rw [if_pos h3, if_pos h3]
    by_cases h4 : (lastAt l i).any (fun y => decide (l[i] ≤ y)) = true
    ·rw [if_pos h4, if_pos h4]
     rfl
    ·rw [if_neg h4, if_neg h4]
     have ih := lab_gen l B rf hB hE M (i + 1) hlt (by omega)
     have hl : lastAt l (i + 1) = some l[i] := hx
     rw [hl] at ih
     exact ih
   ·rw [if_neg h3, if_neg h3]
    rfl
  ·have : i = l.length := by omega
   subst this
   rw [hE, List.drop_length]
   rfl
theorem f37_dec (m : Nat) (x : Int) : f37 m x = some (decide (okC x)) := by
 obtain ⟨b, h1, h2⟩ := f37_eq m x
 rw [h1]
 cases b with
 | true => rw [decide_eq_true (h2.1 rfl)]
 | false => rw [decide_eq_false fun h => by have := h2.2 h; cases this]
theorem f42_eq (m : Nat) (x : Int) : f42 m x = some ((decide (x ≥ 0) && decide (x < 55296)) || (decide (x > 57343) && decide (x ≤ 1114111))) := rfl
theorem bool_ok (x : Int) : (if decide (x < 1) = true then some true else some (!((decide (x ≥ 0) && decide (x < 55296)) || (decide (x > 57343) && decide (x ≤ 1114111))))) = some (!(decide (okC x))) := by
 by_cases h : x < 1
 ·rw [if_pos (decide_eq_true h), decide_eq_false (by unfold okC; omega)]
  rfl
 ·rw [if_neg (by simpa using h)]
  congr 2
  rw [Bool.eq_iff_iff]
  simp only [Bool.or_eq_true, Bool.and_eq_true, decide_eq_true_eq]
  unfold okC
  omega
def SubsOk (p : S24) : Prop := (p.fKind = 1 ∨ p.fKind = 2) ∧ p.fSubs.length = 0 ∨ (p.fKind = 3 ∨ p.fKind = 4) ∧ 2 ≤ p.fSubs.length ∨ p.fKind = 5 ∧ p.fSubs.length = 1 ∨ (p.fKind = 6 ∨ p.fKind = 7) ∧ p.fSubs.length = 2
def LabsOk (p : S24) : Prop := (p.fKind = 2 ∧ 0 < p.fLabels.length ∨ p.fKind ≠ 2 ∧ p.fLabels.length = 0) ∧ p.fLabels.length ≤ 300
instance (p : S24) : Decidable (SubsOk p) := by unfold SubsOk; infer_instance
instance (p : S24) : Decidable (LabsOk p) := by unfold LabsOk; infer_instance
def repE (p : S24) : Int :=
 if p.fKind = 5 then (if p.fLeast < 0 ∨ p.fLeast > 9 ∨ p.fMost < -1 ∨ p.fMost > 9 then 3 else if 0 ≤ p.fMost ∧ p.fMost < p.fLeast then 13 else 0)
 else if p.fLeast ≠ 0 ∨ p.fMost ≠ 0 then 5 else 0
def nodeE (p : S24) : Int :=
 if p.fKind < 1 ∨ 7 < p.fKind then 4 else if ¬ (SubsOk p ∧ LabsOk p) then 9 else if labE none p.fLabels ≠ 0 then labE none p.fLabels else repE p
theorem lab26 (m : Nat) (p : S24) (hl : p.fLabels.length ≤ 300) (hm : 1000 ≤ m) : iter (fun (y : Int) => f26_B3 m p y) m 0 = some (if labE none p.fLabels = 0 then .inr (p.fLabels.length : Int) else .inl (labE none p.fLabels)) := by
 refine lab_gen p.fLabels _ id (fun i x hx => ?_) ?_ m 0 (Nat.zero_le _) (by omega)
 ·have hlt : i < p.fLabels.length := (List.getElem?_eq_some_iff.1 hx).1
  have e1 : idx p.fLabels (i : Int) = some x := by simp [idx, hx]
  have hwi : w64 ((i : Int) + 1) = ((i + 1 : Nat) : Int) := by rw [w64_id ⟨by omega, by omega⟩]; omega
  unfold f26_B3
  rw [decide_eq_true (by omega : (i : Int) < (p.fLabels.length : Int)), cnd_true, e1, bnd_some', f42_eq, bnd_some']
  have hb := bool_ok x
  have hc : (cnd (decide (x < 1)) (some true) (some (!((decide (x ≥ 0) && decide (x < 55296)) || (decide (x > 57343) && decide (x ≤ 1114111)))))) = some (!(decide (okC x))) := by
   rw [← hb]
   cases decide (x < 1) <;> rfl
  rw [hc, bnd_some']
  unfold f26_r2
  by_cases h3 : okC x
  ·rw [decide_eq_true h3, if_pos h3, Bool.not_true, cnd_false]
   cases i with
   | zero =>
    rw [decide_eq_false (by omega : ¬ (((0 : Nat) : Int) > 0)), cnd_false, bnd_some']
    unfold f26_r1
    rw [cnd_false, hwi]
    rfl
   | succ j =>
    have e0 : w64 (((j + 1 : Nat) : Int) - 1) = (j : Int) := by rw [w64_id ⟨by omega, by omega⟩]; omega
    have hj : j < p.fLabels.length := by omega
    have e2 : idx p.fLabels (j : Int) = some p.fLabels[j] := by simp [idx, List.getElem?_eq_getElem hj]
    have e3 : lastAt p.fLabels (j + 1) = some p.fLabels[j] := List.getElem?_eq_getElem hj
    rw [decide_eq_true (by omega : (((j + 1 : Nat) : Int) > 0)), cnd_true, e0, e2, bnd_some', bnd_some', e3]
    unfold f26_r1
    show cnd (decide (x ≤ p.fLabels[j])) _ _ = if decide (x ≤ p.fLabels[j]) = true then _ else _
    rw [hwi]
    cases decide (x ≤ p.fLabels[j]) <;> rfl
  ·rw [decide_eq_false h3, if_neg h3]
   rfl
 ·unfold f26_B3
  rw [decide_eq_false (by omega), cnd_false]
theorem j13_eq (m : Nat) (hm : 1000 ≤ m) (p : S24) (hk : ¬ (p.fKind < 1 ∨ 7 < p.fKind)) (v1 v2 : Bool) (hv : v1 = true ↔ SubsOk p) : f26_j13 m p v1 v2 = some (nodeE p) := by
 unfold f26_j13 f26_r12 f26_r11 f26_r10 nodeE
 rw [if_neg hk]
 by_cases hs : SubsOk p ∧ LabsOk p
 ·have hb : (((((p.fKind == 2) && ((p.fLabels.length : Int) == 0)) || ((p.fKind != 2) && (decide ((p.fLabels.length : Int) > 0)))) || (decide ((p.fLabels.length : Int) > 300))) || (!v1)) = false := by
   rw [hv.2 hs.1]
   obtain ⟨h1, h2⟩ := hs.2
   simp only [Bool.or_eq_false_iff, Bool.and_eq_false_iff, beq_eq_false_iff_ne, bne_eq_false_iff_eq, decide_eq_false_iff_not, ne_eq, Bool.not_true, and_true]
   omega
  rw [hb, if_neg (by simpa using hs)]
  unfold f26_r9
  rw [cnd_false, lab26 m p hs.2.2 hm]
  by_cases h0 : labE none p.fLabels = 0
  ·rw [if_pos h0, if_neg (by simpa using h0)]
   show cnd (p.fKind != 5) _ _ = _
   unfold repE
   by_cases h5 : p.fKind = 5
   ·have e5 : (p.fKind != 5) = false := by simpa using h5
    rw [e5, cnd_false, if_pos h5]
    unfold f26_r8 f26_r7 f26_r6 f26_r5
    by_cases hr : p.fLeast < 0 ∨ p.fLeast > 9 ∨ p.fMost < -1 ∨ p.fMost > 9
    ·have : (((decide (p.fLeast < 0) || decide (p.fLeast > 9)) || decide (p.fMost < -1)) || decide (p.fMost > 9)) = true := by
      simp only [Bool.or_eq_true, decide_eq_true_eq]; omega
     rw [this, cnd_true, if_pos hr]
    ·have : (((decide (p.fLeast < 0) || decide (p.fLeast > 9)) || decide (p.fMost < -1)) || decide (p.fMost > 9)) = false := by
      simp only [Bool.or_eq_false_iff, decide_eq_false_iff_not]; omega
     rw [this, cnd_false, if_neg hr]
     by_cases ho : 0 ≤ p.fMost ∧ p.fMost < p.fLeast
     ·have : ((p.fMost != -1) && decide (p.fMost < p.fLeast)) = true := by simp only [Bool.and_eq_true, bne_iff_ne, ne_eq, decide_eq_true_eq]; omega
      rw [this, cnd_true, if_pos ho]
     ·have : ((p.fMost != -1) && decide (p.fMost < p.fLeast)) = false := by
       rw [Bool.and_eq_false_iff, bne_eq_false_iff_eq, decide_eq_false_iff_not]; omega
      rw [this, cnd_false, if_neg ho]
   ·have e5 : (p.fKind != 5) = true := by simpa using h5
    rw [e5, cnd_true, if_neg h5]
    unfold f26_r4
    by_cases hz : p.fLeast ≠ 0 ∨ p.fMost ≠ 0
    ·have : ((p.fLeast != 0) || (p.fMost != 0)) = true := by
      simp only [Bool.or_eq_true, bne_iff_ne, ne_eq]; omega
     rw [this, cnd_true, if_pos hz]
    ·have : ((p.fLeast != 0) || (p.fMost != 0)) = false := by
      simp only [Bool.or_eq_false_iff, bne_eq_false_iff_eq]; omega
     rw [this, cnd_false, if_neg hz]
  ·rw [if_neg h0, if_pos (by simpa using h0)]
   rfl
 ·have hb : (((((p.fKind == 2) && ((p.fLabels.length : Int) == 0)) || ((p.fKind != 2) && (decide ((p.fLabels.length : Int) > 0)))) || (decide ((p.fLabels.length : Int) > 300))) || (!v1)) = true := by
   by_cases h1 : SubsOk p
   ·have h2 : ¬ LabsOk p := fun h => hs ⟨h1, h⟩
    unfold LabsOk at h2
    simp only [Bool.or_eq_true, Bool.and_eq_true, beq_iff_eq, bne_iff_ne, decide_eq_true_eq, ne_eq]
    omega
   ·have : v1 = false := by
     cases v1 with
     | false => rfl
     | true => exact (h1 (hv.1 rfl)).elim
    rw [this]
    simp
  rw [hb, if_pos hs]
  rfl
theorem f26_eq (m : Nat) (hm : 1000 ≤ m) (p : S24) : f26 m p = some (nodeE p) := by
 have kb : ∀ z : Int, p.fKind = z → ((p.fKind == z) = true) := fun z h => by simpa using h
 have nk : ∀ z : Int, p.fKind ≠ z → ((p.fKind == z) = false) := fun z h => by simpa using h
 have hlen : ∀ z : Nat, (((p.fSubs.length : Int) == (z : Int)) = true ↔ p.fSubs.length = z) := fun z => by simp only [beq_iff_eq]; omega
 unfold f26
 by_cases k1 : p.fKind = 1
 ·rw [kb 1 k1, cnd_true]
  exact j13_eq m hm p (by omega) ((p.fSubs.length : Int) == 0) true ((hlen 0).trans (by unfold SubsOk; omega))
 rw [nk 1 k1, cnd_false]
 by_cases k2 : p.fKind = 2
 ·rw [kb 2 k2]
  exact j13_eq m hm p (by omega) ((p.fSubs.length : Int) == 0) true ((hlen 0).trans (by unfold SubsOk; omega))
 rw [nk 2 k2]
 unfold f26_j19
 rw [cnd_false]
 have h34 : (p.fKind = 3 ∨ p.fKind = 4) → f26_j18 m p false true = some (nodeE p) := fun h =>
  j13_eq m hm p (by omega) (decide ((p.fSubs.length : Int) ≥ 2)) false (by simp only [decide_eq_true_eq]; unfold SubsOk; omega)
 by_cases k3 : p.fKind = 3
 ·rw [kb 3 k3, cnd_true]
  exact h34 (.inl k3)
 rw [nk 3 k3, cnd_false]
 by_cases k4 : p.fKind = 4
 ·rw [kb 4 k4]
  exact h34 (.inr k4)
 rw [nk 4 k4]
 unfold f26_j18
 rw [cnd_false]
 by_cases k5 : p.fKind = 5
 ·rw [kb 5 k5, cnd_true]
  exact j13_eq m hm p (by omega) ((p.fSubs.length : Int) == 1) false ((hlen 1).trans (by unfold SubsOk; omega))
 rw [nk 5 k5, cnd_false]
 have h67 : (p.fKind = 6 ∨ p.fKind = 7) → f26_j17 m p false true = some (nodeE p) := fun h =>
  j13_eq m hm p (by omega) ((p.fSubs.length : Int) == 2) false ((hlen 2).trans (by unfold SubsOk; omega))
 by_cases k6 : p.fKind = 6
 ·rw [kb 6 k6, cnd_true]
  exact h67 (.inl k6)
 rw [nk 6 k6, cnd_false]
 by_cases k7 : p.fKind = 7
 ·rw [kb 7 k7]
  exact h67 (.inr k7)
 rw [nk 7 k7]
 unfold nodeE
 rw [if_pos (by omega)]
 rfl
def subsS (F : Nat → P24 → S27 × Nat) : List P24 → Nat → S27 × Nat
 | [], k => (⟨0, 0⟩, k)
 | q :: s, k => if (F k q).1.fCode ≠ 0 then F k q else subsS F s (F k q).2
theorem subsS_cons {F : Nat → P24 → S27 × Nat} (q : P24) (s : List P24) (k : Nat) : subsS F (q :: s) k = if (F k q).1.fCode ≠ 0 then F k q else subsS F s (F k q).2 := rfl
noncomputable def valS : Nat → Nat → S24 → S27 × Nat
 | 0, k, _ => (⟨2, (k : Int)⟩, k + 1)
 | r + 1, k, p => if 200 ≤ k then (⟨2, (k : Int)⟩, k + 1) else if nodeE p ≠ 0 then (⟨nodeE p, (k : Int)⟩, k + 1) else subsS (fun k q => valS r k q.vw) p.fSubs (k + 1)
def Fine (k : Nat) (o : S27 × Nat) : Prop := (o.1 = (⟨0, 0⟩ : S27) ∧ k ≤ o.2 ∧ o.2 ≤ 200) ∨ o.1.fCode ≠ 0
theorem subsS_fine {F : Nat → P24 → S27 × Nat} (hF : ∀ k q, k ≤ 200 → Fine (k + 1) (F k q)) : ∀ (l : List P24) (k : Nat), k ≤ 200 → Fine (k + l.length) (subsS F l k)
 | [], k, hk => .inl ⟨rfl, Nat.le_refl _, hk⟩
 | q :: s, k, hk => by
  unfold subsS
  rcases hF k q hk with ⟨h1, h2, h3⟩ | h
  ·have h0 : ¬ (F k q).1.fCode ≠ 0 := by rw [h1]; simp
   rw [if_neg h0]
   rcases subsS_fine hF s (F k q).2 h3 with ⟨g1, g2, g3⟩ | g
   ·exact .inl ⟨g1, by rw [List.length_cons]; omega, g3⟩
   ·exact .inr g
  ·rw [if_pos h]
   exact .inr h
theorem valS_fine : ∀ (r k : Nat) (p : S24), k ≤ 200 → Fine (k + 1) (valS r k p)
 | 0, k, p, _ => .inr (by unfold valS; simp)
 | r + 1, k, p, hk => by
  unfold valS
  split
  ·exact .inr (by simp)
  ·split
   ·rename_i h
    exact .inr h
   ·rcases subsS_fine (F := fun k q => valS r k q.vw) (fun k q h => valS_fine r k q.vw h) p.fSubs (k + 1) (by omega) with ⟨h1, h2, h3⟩ | h
    ·exact .inl ⟨h1, by omega, h3⟩
    ·exact .inr h
theorem subsS_app {F : Nat → P24 → S27 × Nat} : ∀ (a b : List P24) (k : Nat), subsS F (a ++ b) k = if (subsS F a k).1.fCode ≠ 0 then subsS F a k else subsS F b (subsS F a k).2
 | [], b, k => by
  have : ¬ ((subsS F [] k).1.fCode ≠ 0) := by unfold subsS; simp
  rw [if_neg this]; rfl
 | q :: a, b, k => by
  rw [List.cons_append, subsS_cons, subsS_cons]
  by_cases h : (F k q).1.fCode ≠ 0
  ·rw [if_pos h, if_pos h, if_pos h]
  ·rw [if_neg h, if_neg h]
   exact subsS_app a b _
theorem subsS_take {F : Nat → P24 → S27 × Nat} (hF : ∀ k q, k ≤ 200 → Fine (k + 1) (F k q)) (l : List P24) (k : Nat) (hk : k ≤ 200) : subsS F (l.take 201) k = subsS F l k := by
 rcases Nat.lt_or_ge 201 l.length with h | h
 ·have e : subsS F l k = subsS F (l.take 201 ++ l.drop 201) k := by rw [List.take_append_drop]
  rw [e, subsS_app]
  have hl : (l.take 201).length = 201 := by rw [List.length_take]; omega
  rcases subsS_fine hF (l.take 201) k hk with ⟨_, h2, h3⟩ | h1
  ·omega
  ·rw [if_pos h1]
 ·rw [List.take_of_length_le h]
theorem lab21 (m : Nat) (K : Rec21) (k : Nat) (hk : k < 1000) (p : S24) (hl : p.fLabels.length ≤ 300) (hm : 1000 ≤ m) : iter (fun (y : Int) => f21_B2 m K (⟨(k : Int)⟩ : S45) p y) m 0 =
  some (if labE none p.fLabels = 0 then .inr (p.fLabels.length : Int) else .inl ((⟨labE none p.fLabels, (k : Int)⟩ : S27), (⟨((k + 1 : Nat) : Int)⟩ : S45))) := by
 have hwk : w64 ((k : Int) + 1) = ((k + 1 : Nat) : Int) := by rw [w64_id ⟨by omega, by omega⟩]; omega
 refine lab_gen p.fLabels _ (fun c => ((⟨c, (k : Int)⟩ : S27), (⟨((k + 1 : Nat) : Int)⟩ : S45))) (fun i x hx => ?_) ?_ m 0 (Nat.zero_le _) (by omega)
 ·have hlt : i < p.fLabels.length := (List.getElem?_eq_some_iff.1 hx).1
  have e1 : idx p.fLabels (i : Int) = some x := by simp [idx, hx]
  have hwi : w64 ((i : Int) + 1) = ((i + 1 : Nat) : Int) := by rw [w64_id ⟨by omega, by omega⟩]; omega
  unfold f21_B2
  rw [decide_eq_true (by omega : (i : Int) < (p.fLabels.length : Int)), cnd_true, e1, bnd_some', f37_dec, bnd_some']
  dsimp only
  rw [hwk]
  by_cases h3 : okC x
  ·rw [decide_eq_true h3, if_pos h3, Bool.not_true, cnd_false]
   cases i with
   | zero =>
    rw [decide_eq_false (by omega : ¬ (((0 : Nat) : Int) > 0)), cnd_false, bnd_some']
    unfold f21_r1
    rw [cnd_false, hwi]
    rfl
   | succ j =>
    have e0 : w64 (((j + 1 : Nat) : Int) - 1) = (j : Int) := by rw [w64_id ⟨by omega, by omega⟩]; omega
    have hj : j < p.fLabels.length := by omega
    have e2 : idx p.fLabels (j : Int) = some p.fLabels[j] := by simp [idx, List.getElem?_eq_getElem hj]
    have e3 : lastAt p.fLabels (j + 1) = some p.fLabels[j] := List.getElem?_eq_getElem hj
    rw [decide_eq_true (by omega : (((j + 1 : Nat) : Int) > 0)), cnd_true, e0, e2, bnd_some', bnd_some', e3]
    unfold f21_r1
    show cnd (decide (x ≤ p.fLabels[j])) _ _ = if decide (x ≤ p.fLabels[j]) = true then _ else _
    dsimp only
    rw [hwi, hwk]
    cases decide (x ≤ p.fLabels[j]) <;> rfl
  ·rw [decide_eq_false h3, if_neg h3]
   rfl
 ·unfold f21_B2
  rw [decide_eq_false (by omega), cnd_false]
def out (o : S27 × Nat) : S27 × S45 := (o.1, (⟨(o.2 : Int)⟩ : S45))
theorem subs21 (m : Nat) (K : Rec21) (F : Nat → P24 → S27 × Nat) (hF : ∀ k q, k ≤ 200 → Fine (k + 1) (F k q)) (p : S24) (d : Int) (hd : 0 ≤ d ∧ d ≤ 40)
  (hK : ∀ (q : P24) (k : Nat), k ≤ 200 → K.r21 (⟨(k : Int)⟩ : S45) q.vw (d + 1) = some (out (F k q))) : ∀ (M i k : Nat), i ≤ p.fSubs.length → i ≤ k → k ≤ 200 → 201 - k < M →
  ∃ z : Int × Int, iter (fun (y : Int × Int) => f21_B3 m K p d y.1 y.2) M ((i : Int), (k : Int)) = some (if (subsS F (p.fSubs.drop i) k).1.fCode ≠ 0 then .inl (out (subsS F (p.fSubs.drop i) k)) else .inr z) ∧ z.2 = ((subsS F (p.fSubs.drop i) k).2 : Int)
 | 0, i, k, _, _, _, h => by omega
 | M + 1, i, k, h1, hik, h2, h3 => by
  have hwd : w64 (d + 1) = d + 1 := w64_id ⟨by omega, by omega⟩
  have hwi : w64 ((i : Int) + 1) = ((i + 1 : Nat) : Int) := by rw [w64_id ⟨by omega, by omega⟩]; omega
  unfold iter
  dsimp only
  rcases Nat.lt_or_ge i p.fSubs.length with hlt | hge
  ·have hx := List.getElem?_eq_getElem hlt
   have e1 : idx p.fSubs (i : Int) = some p.fSubs[i] := by simp [idx, hx]
   have hB : f21_B3 m K p d (i : Int) (k : Int) = if (F k p.fSubs[i]).1.fCode ≠ 0 then some (.ret (out (F k p.fSubs[i]))) else some (.nxt (((i + 1 : Nat) : Int), ((F k p.fSubs[i]).2 : Int))) := by
    unfold f21_B3
    rw [hwd, decide_eq_true (by omega : (i : Int) < (p.fSubs.length : Int)), cnd_true, e1, bnd_some', hK _ k h2, bnd_some', hwi]
    rcases hF k p.fSubs[i] h2 with ⟨g1, g2, g3⟩ | g
    ·have h0 : ¬ (F k p.fSubs[i]).1.fCode ≠ 0 := by rw [g1]; simp
     have : (!(((out (F k p.fSubs[i])).1.fCode == 0) && (((out (F k p.fSubs[i])).1.fIndex == 0) && true))) = false := by
      show (!(((F k p.fSubs[i]).1.fCode == 0) && (((F k p.fSubs[i]).1.fIndex == 0) && true))) = false
      rw [g1]; rfl
     rw [this, cnd_false, if_neg h0]
     rfl
    ·have : (!(((out (F k p.fSubs[i])).1.fCode == 0) && (((out (F k p.fSubs[i])).1.fIndex == 0) && true))) = true := by
      have : ((out (F k p.fSubs[i])).1.fCode == 0) = false := by simpa [out] using g
      rw [this]; rfl
     rw [this, cnd_true, if_pos g]
   rw [hB, List.drop_eq_getElem_cons hlt]
   unfold subsS
   rcases hF k p.fSubs[i] h2 with ⟨g1, g2, g3⟩ | g
   ·have h0 : ¬ (F k p.fSubs[i]).1.fCode ≠ 0 := by rw [g1]; simp
    rw [if_neg h0, if_neg h0]
    exact subs21 m K F hF p d hd hK M (i + 1) _ hlt (by omega) g3 (by omega)
   ·rw [if_pos g, if_pos g]
    refine ⟨((i : Int), ((F k p.fSubs[i]).2 : Int)), ?_, rfl⟩
    rw [if_pos g]
  ·have : i = p.fSubs.length := by omega
   subst this
   have hB : f21_B3 m K p d (p.fSubs.length : Int) (k : Int) = some (.brk ((p.fSubs.length : Int), (k : Int))) := by
    unfold f21_B3
    rw [decide_eq_false (by omega), cnd_false]
   rw [hB, List.drop_length]
   have h0 : ¬ ((subsS F [] k).1.fCode ≠ 0) := by unfold subsS; simp
   refine ⟨((p.fSubs.length : Int), (k : Int)), ?_, rfl⟩
   rw [if_neg h0]
theorem chkX (m : Nat) (hm : 1000 ≤ m) : ∀ (r R : Nat) (d : Int) (k : Nat) (p : S24), r < R → d + r = 41 → 0 ≤ d → k ≤ 200 → (K21 m R).r21 (⟨(k : Int)⟩ : S45) p d = some (out (valS r k p))
 | r, 0, d, k, p, h, _, _, _ => by omega
 | 0, R + 1, d, k, p, h1, h2, h3, h4 => by
  have hwk : w64 ((k : Int) + 1) = ((k + 1 : Nat) : Int) := by rw [w64_id ⟨by omega, by omega⟩]; omega
  show b21 m (K21 m R) (⟨(k : Int)⟩ : S45) p d = _
  unfold b21 f21_r19
  have : decide (d > 40) = true := decide_eq_true (by omega)
  rw [this, Bool.or_true, cnd_true]
  show some ((⟨2, (k : Int)⟩ : S27), (⟨w64 ((k : Int) + 1)⟩ : S45)) = _
  rw [hwk]
  rfl
 | r + 1, R + 1, d, k, p, h1, h2, h3, h4 => by
  have hwk : w64 ((k : Int) + 1) = ((k + 1 : Nat) : Int) := by rw [w64_id ⟨by omega, by omega⟩]; omega
  show b21 m (K21 m R) (⟨(k : Int)⟩ : S45) p d = _
  unfold b21 valS
  have flt : ∀ c : Int, (bnd (f23 m c (⟨(k : Int)⟩ : S45).fNodes) fun v => some ((v, (⟨w64 ((⟨(k : Int)⟩ : S45).fNodes + 1)⟩ : S45)))) = some (out ((⟨c, (k : Int)⟩ : S27), k + 1)) := by
   intro c
   show some ((⟨c, (k : Int)⟩ : S27), (⟨w64 ((k : Int) + 1)⟩ : S45)) = _
   rw [hwk]
   rfl
  by_cases hk : 200 ≤ k
  ·have : decide (w64 ((⟨(k : Int)⟩ : S45).fNodes + 1) > 200) = true := decide_eq_true (by show w64 ((k : Int) + 1) > 200; rw [hwk]; omega)
   rw [this, Bool.true_or, if_pos hk]
   unfold f21_r19
   rw [cnd_true]
   exact flt 2
  rw [if_neg hk]
  have e1 : decide (w64 ((⟨(k : Int)⟩ : S45).fNodes + 1) > 200) = false := decide_eq_false (by show ¬ w64 ((k : Int) + 1) > 200; rw [hwk]; omega)
  have e2 : decide (d > 40) = false := decide_eq_false (by omega)
  rw [e1, e2, Bool.or_false]
  have subs : f21_j4 m (K21 m R) (⟨(k : Int)⟩ : S45) p d = some (out (subsS (fun k q => valS r k q.vw) p.fSubs (k + 1))) := by
   unfold f21_j4
   show brk (iter _ m (0, w64 ((k : Int) + 1))) _ _ = _
   rw [hwk]
   obtain ⟨z, q1, q2⟩ := subs21 m (K21 m R) (fun k q => valS r k q.vw) (fun k q h => valS_fine r k q.vw h) p d ⟨h3, by omega⟩ (fun q k' hk' => chkX m hm r R (d + 1) k' q.vw (by omega) (by omega) (by omega) hk') m 0 (k + 1) (Nat.zero_le _) (Nat.zero_le _) (by omega) (by omega)
   have q1 : iter (fun (y : Int × Int) => f21_B3 m (K21 m R) p d y.1 y.2) m (0, ((k + 1 : Nat) : Int)) = _ := q1
   rw [q1]
   rw [List.drop_zero] at q2 ⊢
   have hf := subsS_fine (F := fun k q => valS r k q.vw) (fun k q h => valS_fine r k q.vw h) p.fSubs (k + 1) (by omega)
   generalize subsS (fun k q => valS r k q.vw) p.fSubs (k + 1) = o at *
   rcases hf with ⟨g1, g2, g3⟩ | g
   ·have h0 : ¬ (o.1.fCode ≠ 0) := by rw [g1]; simp
    rw [if_neg h0]
    show some ((⟨0, 0⟩ : S27), (⟨z.2⟩ : S45)) = _
    rw [q2]
    unfold out
    rw [g1]
   ·rw [if_pos g]
    rfl
  have counts : ∀ (c : Int) (b : Bool), ¬ (p.fKind < 1 ∨ 7 < p.fKind) → ((p.fSubs.length : Int) = c ↔ SubsOk p) →
    f21_j12 m (K21 m R) (⟨(k : Int)⟩ : S45) p d c b = some (out (if nodeE p ≠ 0 then (⟨nodeE p, (k : Int)⟩, k + 1) else subsS (fun k q => valS r k q.vw) p.fSubs (k + 1))) := by
   intro c b hkd hc
   unfold f21_j12 f21_r11
   have hne : nodeE p = if ¬ (SubsOk p ∧ LabsOk p) then 9 else if labE none p.fLabels ≠ 0 then labE none p.fLabels else repE p := by
    unfold nodeE; rw [if_neg hkd]
   by_cases hs : SubsOk p ∧ LabsOk p
   ·have hb : (((((p.fSubs.length : Int) != c) || (!((p.fKind == 2) == (decide ((p.fLabels.length : Int) > 0))))) || decide ((p.fLabels.length : Int) > 300))) = false := by
     have c1 := hc.2 hs.1
     obtain ⟨g1, g2⟩ := hs.2
     have c2 : ((p.fKind == 2) == (decide ((p.fLabels.length : Int) > 0))) = true := by
      rcases g1 with ⟨g1, g3⟩ | ⟨g1, g3⟩
      ·rw [show (p.fKind == 2) = true by simpa using g1, decide_eq_true (by omega : (p.fLabels.length : Int) > 0)]; rfl
      ·rw [show (p.fKind == 2) = false by simpa using g1, decide_eq_false (by omega : ¬ (p.fLabels.length : Int) > 0)]; rfl
     rw [c2, decide_eq_false (by omega : ¬ (p.fLabels.length : Int) > 300), show ((p.fSubs.length : Int) != c) = false by simpa using c1]
     rfl
    rw [hb]
    rw [if_neg (by simpa using hs)] at hne
    unfold f21_r10
    rw [cnd_false, lab21 m (K21 m R) k (by omega) p hs.2.2 hm]
    by_cases h0 : labE none p.fLabels = 0
    ·rw [if_neg (by simpa using h0)] at hne
     rw [if_pos h0, brk_inr, hne]
     unfold repE
     by_cases h5 : p.fKind = 5
     ·have e5 : (p.fKind == 5) = true := by simpa using h5
      rw [e5, cnd_true, if_pos h5]
      unfold f21_r8 f21_r7 f21_r6 f21_r5
      by_cases hr : p.fLeast < 0 ∨ p.fLeast > 9 ∨ p.fMost < -1 ∨ p.fMost > 9
      ·have : (((decide (p.fLeast < 0) || decide (p.fLeast > 9)) || decide (p.fMost < -1)) || decide (p.fMost > 9)) = true := by
        simp only [Bool.or_eq_true, decide_eq_true_eq]; omega
       rw [this, cnd_true, if_pos hr]
       exact flt 3
      ·have : (((decide (p.fLeast < 0) || decide (p.fLeast > 9)) || decide (p.fMost < -1)) || decide (p.fMost > 9)) = false := by
        simp only [Bool.or_eq_false_iff, decide_eq_false_iff_not]; omega
       rw [this, cnd_false, if_neg hr]
       by_cases ho : 0 ≤ p.fMost ∧ p.fMost < p.fLeast
       ·have : (decide (p.fMost ≥ 0) && decide (p.fMost < p.fLeast)) = true := by simp only [Bool.and_eq_true, decide_eq_true_eq]; omega
        rw [this, cnd_true, if_pos ho]
        exact flt 13
       ·have : (decide (p.fMost ≥ 0) && decide (p.fMost < p.fLeast)) = false := by
         rw [Bool.and_eq_false_iff, decide_eq_false_iff_not, decide_eq_false_iff_not]; omega
        rw [this, cnd_false, if_neg ho]
        exact subs
     ·have e5 : (p.fKind == 5) = false := by simpa using h5
      rw [e5, cnd_false, if_neg h5]
      unfold f21_r9
      by_cases hz : p.fLeast ≠ 0 ∨ p.fMost ≠ 0
      ·have : ((p.fLeast != 0) || (p.fMost != 0)) = true := by
        simp only [Bool.or_eq_true, bne_iff_ne, ne_eq]; omega
       rw [this, cnd_true, if_pos hz]
       exact flt 5
      ·have : ((p.fLeast != 0) || (p.fMost != 0)) = false := by
        simp only [Bool.or_eq_false_iff, bne_eq_false_iff_eq]; omega
       rw [this, cnd_false, if_neg hz]
       exact subs
    ·rw [if_pos (by simpa using h0)] at hne
     rw [if_neg h0, hne, if_pos h0]
     rfl
   ·have hb : (((((p.fSubs.length : Int) != c) || (!((p.fKind == 2) == (decide ((p.fLabels.length : Int) > 0))))) || decide ((p.fLabels.length : Int) > 300))) = true := by
     by_cases g1 : SubsOk p
     ·have g2 : ¬ LabsOk p := fun h => hs ⟨g1, h⟩
      unfold LabsOk at g2
      by_cases g3 : p.fLabels.length ≤ 300
      ·have c2 : ((p.fKind == 2) == (decide ((p.fLabels.length : Int) > 0))) = false := by
        by_cases g4 : p.fKind = 2
        ·rw [show (p.fKind == 2) = true by simpa using g4, decide_eq_false (by omega : ¬ (p.fLabels.length : Int) > 0)]; rfl
        ·rw [show (p.fKind == 2) = false by simpa using g4, decide_eq_true (by omega : (p.fLabels.length : Int) > 0)]; rfl
       rw [c2]
       simp
      ·rw [decide_eq_true (by omega : (p.fLabels.length : Int) > 300)]
       simp
     ·rw [show ((p.fSubs.length : Int) != c) = true by simpa using fun h => g1 (hc.1 h)]
      rfl
    rw [hb]
    rw [if_pos hs] at hne
    rw [hne]
    unfold f21_r10
    rw [cnd_true]
    exact flt 9
  have kb : ∀ z : Int, p.fKind = z → ((p.fKind == z) = true) := fun z h => by simpa using h
  have nk : ∀ z : Int, p.fKind ≠ z → ((p.fKind == z) = false) := fun z h => by simpa using h
  unfold f21_r19
  rw [cnd_false]
  by_cases k1 : p.fKind = 1
  ·rw [kb 1 k1, cnd_true]
   exact counts 0 true (by omega) (by unfold SubsOk; omega)
  rw [nk 1 k1, cnd_false]
  by_cases k2 : p.fKind = 2
  ·rw [kb 2 k2]
   exact counts 0 true (by omega) (by unfold SubsOk; omega)
  rw [nk 2 k2]
  unfold f21_j18
  rw [cnd_false]
  have two : (p.fKind = 3 ∨ p.fKind = 4) → f21_j14 m (K21 m R) (⟨(k : Int)⟩ : S45) p d false (if (p.fSubs.length : Int) > 2 then (p.fSubs.length : Int) else 2) = _ := fun h34 =>
   counts _ false (by omega) (by unfold SubsOk; split <;> omega)
  by_cases k3 : p.fKind = 3
  ·rw [kb 3 k3, cnd_true]
   exact two (.inl k3)
  rw [nk 3 k3, cnd_false]
  by_cases k4 : p.fKind = 4
  ·rw [kb 4 k4]
   exact two (.inr k4)
  rw [nk 4 k4]
  unfold f21_j17
  rw [cnd_false]
  by_cases k5 : p.fKind = 5
  ·rw [kb 5 k5, cnd_true]
   exact counts 1 false (by omega) (by unfold SubsOk; omega)
  rw [nk 5 k5, cnd_false]
  by_cases k6 : p.fKind = 6
  ·rw [kb 6 k6, cnd_true]
   exact counts 2 false (by omega) (by unfold SubsOk; omega)
  rw [nk 6 k6, cnd_false]
  by_cases k7 : p.fKind = 7
  ·rw [kb 7 k7]
   exact counts 2 false (by omega) (by unfold SubsOk; omega)
  rw [nk 7 k7]
  have : nodeE p = 4 := by unfold nodeE; rw [if_pos (by omega)]
  rw [this, if_pos (by decide)]
  unfold f21_j16
  exact flt 4
theorem f9_val (m : Nat) (hm : 1000 ≤ m) (p : S24) : f9 m p = some (valS 40 0 p).1 := by
 have h1 := chkX m hm 40 m 1 0 p (by omega) (by omega) (by omega) (by omega)
 have h1 : f21 m (⟨0⟩ : S45) p 1 = some (out (valS 40 0 p)) := h1
 unfold f9
 rw [h1]
 rfl
noncomputable def mk52 (d : Int) (q : P24) : S52 := ⟨q.vw, d⟩
theorem push12 (m : Nat) (v : S52) (hv : 0 ≤ v.fDepth ∧ v.fDepth ≤ 40) (n : Nat) (hn : n ≤ v.fP.fSubs.length) (hn2 : n ≤ 201) : ∀ (M j : Nat) (ys : List S52), j ≤ n → j < M → ys.length + j ≤ 1000000 →
  ∃ z, iter (fun (y : (List S52) × Int) => f12_B1 m v y.1 y.2) M (ys, (j : Int) - 1) = some (.inr z) ∧ z.1 = ys ++ ((v.fP.fSubs.take j).map (mk52 (v.fDepth + 1))).reverse
 | 0, j, ys, _, h, _ => by omega
 | M + 1, 0, ys, h1, h2, h3 => by
  unfold iter
  dsimp only
  have hB : f12_B1 m v ys (((0 : Nat) : Int) - 1) = some (.brk (ys, ((0 : Nat) : Int) - 1)) := by
   unfold f12_B1
   rw [decide_eq_false (by omega), cnd_false]
  rw [hB]
  exact ⟨_, rfl, by simp⟩
 | M + 1, j + 1, ys, h1, h2, h3 => by
  have hlt : j < v.fP.fSubs.length := by omega
  have hx := List.getElem?_eq_getElem hlt
  have e1 : idx v.fP.fSubs (j : Int) = some v.fP.fSubs[j] := by simp [idx, hx]
  have ej : ((j + 1 : Nat) : Int) - 1 = (j : Int) := by omega
  have hwd : w64 (v.fDepth + 1) = v.fDepth + 1 := w64_id ⟨by omega, by omega⟩
  have hwj : w64 ((j : Int) - 1) = (j : Int) - 1 := w64_id ⟨by omega, by omega⟩
  unfold iter
  dsimp only
  rw [ej]
  have hB : f12_B1 m v ys (j : Int) = some (.nxt (ys ++ [mk52 (v.fDepth + 1) v.fP.fSubs[j]], (j : Int) - 1)) := by
   unfold f12_B1
   rw [decide_eq_true (by omega : (j : Int) ≥ 0), cnd_true, e1, bnd_some', hwd, app_some 80 ys _ (by simp; omega) (by simp; omega), bnd_some', hwj]
   rfl
  rw [hB]
  obtain ⟨z, g1, g2⟩ := push12 m v hv n hn hn2 M j (ys ++ [mk52 (v.fDepth + 1) v.fP.fSubs[j]]) (by omega) (by omega) (by rw [List.length_append]; simp; omega)
  refine ⟨z, g1, ?_⟩
  have ht : v.fP.fSubs.take (j + 1) = v.fP.fSubs.take j ++ [v.fP.fSubs[j]] := by rw [List.take_add_one, hx]; rfl
  rw [g2, ht, List.map_append, List.reverse_append, List.append_assoc]
  rfl
theorem step12 (m : Nat) (hm : 1000 ≤ m) (k : Nat) (hk : k ≤ 200) (d : Int) (hd : 1 ≤ d ∧ d ≤ 41) (p : S24) (rest : List S52) (hr : rest.length ≤ 100000) :
  f12_B4 m (rest ++ [⟨p, d⟩]) (k : Int) = if 200 ≤ k ∨ 40 < d then some (.ret ⟨2, (k : Int)⟩) else if nodeE p ≠ 0 then some (.ret ⟨nodeE p, (k : Int)⟩) else
   some (.nxt (rest ++ ((p.fSubs.take 201).map (mk52 (d + 1))).reverse, ((k + 1 : Nat) : Int))) := by
 have hl : (rest ++ [(⟨p, d⟩ : S52)]).length = rest.length + 1 := by simp
 have hw1 : w64 (((rest ++ [(⟨p, d⟩ : S52)]).length : Int) - 1) = (rest.length : Int) := by rw [hl, w64_id ⟨by omega, by omega⟩]; omega
 have hwk : w64 ((k : Int) + 1) = ((k + 1 : Nat) : Int) := by rw [w64_id ⟨by omega, by omega⟩]; omega
 have e1 : idx (rest ++ [(⟨p, d⟩ : S52)]) (rest.length : Int) = some ⟨p, d⟩ := by simp [idx]
 have e2 : sub (rest ++ [(⟨p, d⟩ : S52)]) 0 (rest.length : Int) = some rest := by
  unfold sub
  rw [if_pos ⟨by omega, by omega, by rw [hl]; omega⟩]
  simp
 unfold f12_B4
 rw [decide_eq_true (by rw [hl]; omega : (((rest ++ [(⟨p, d⟩ : S52)]).length : Int) > 0)), cnd_true, hw1, e1, bnd_some', e2, bnd_some']
 unfold f12_r3
 by_cases h1 : 200 ≤ k ∨ 40 < d
 ·have : ((decide ((k : Int) ≥ 200)) || (decide ((⟨p, d⟩ : S52).fDepth > 40))) = true := by
   show ((decide ((k : Int) ≥ 200)) || (decide (d > 40))) = true
   simp only [Bool.or_eq_true, decide_eq_true_eq]; omega
  rw [this, cnd_true, if_pos h1]
  rfl
 ·have : ((decide ((k : Int) ≥ 200)) || (decide ((⟨p, d⟩ : S52).fDepth > 40))) = false := by
   show ((decide ((k : Int) ≥ 200)) || (decide (d > 40))) = false
   simp only [Bool.or_eq_false_iff, decide_eq_false_iff_not]; omega
  rw [this, cnd_false, if_neg h1]
  dsimp only
  rw [f26_eq m hm, bnd_some']
  by_cases h2 : nodeE p = 0
  ·have : (nodeE p != 0) = false := by simpa using h2
   rw [this, cnd_false, if_neg (by simpa using h2)]
   have fin : ∀ n : Nat, n ≤ p.fSubs.length → n ≤ 201 → f12_j2 m (k : Int) (⟨p, d⟩ : S52) rest (n : Int) = some (.nxt (rest ++ ((p.fSubs.take n).map (mk52 (d + 1))).reverse, ((k + 1 : Nat) : Int))) := by
    intro n hn hn2
    unfold f12_j2
    have hwn : w64 ((n : Int) - 1) = (n : Int) - 1 := w64_id ⟨by omega, by omega⟩
    obtain ⟨z, g1, g2⟩ := push12 m (⟨p, d⟩ : S52) ⟨by show 0 ≤ d; omega, by show d ≤ 40; omega⟩ n hn hn2 m n rest (Nat.le_refl _) (by omega) (by omega)
    rw [hwn, g1, brk_inr, hwk, g2]
   by_cases h3 : 201 < p.fSubs.length
   ·rw [decide_eq_true (by omega : (p.fSubs.length : Int) > 201), cnd_true]
    exact fin 201 (by omega) (Nat.le_refl _)
   ·rw [decide_eq_false (by omega : ¬ (p.fSubs.length : Int) > 201), cnd_false, fin p.fSubs.length (Nat.le_refl _) (by omega), List.take_length, List.take_of_length_le (by omega)]
  ·have : (nodeE p != 0) = true := by simpa using h2
   rw [this, cnd_true, if_pos h2]
   rfl
def Took (m : Nat) (o : S27 × Nat) (M k : Nat) (ys rest : List S52) : Prop :=
 if o.1.fCode ≠ 0 then iter (fun (y : (List S52) × Int) => f12_B4 m y.1 y.2) M (ys, (k : Int)) = some (.inl o.1)
 else ∃ M', M' + o.2 = M + k ∧ iter (fun (y : (List S52) × Int) => f12_B4 m y.1 y.2) M (ys, (k : Int)) = iter (fun (y : (List S52) × Int) => f12_B4 m y.1 y.2) M' (rest, (o.2 : Int))
theorem node12 (m : Nat) (hm : 1000 ≤ m) : ∀ (r : Nat) (M k : Nat) (d : Int) (p : S24) (rest : List S52), d + r = 41 → 1 ≤ d → k ≤ 200 → 202 ≤ M + k → rest.length ≤ 202 * (k + 1) →
  Took m (valS r k p) M k (rest ++ [⟨p, d⟩]) rest
 | r, 0, k, d, p, rest, _, _, hk, hM, _ => by omega
 | 0, M + 1, k, d, p, rest, h1, h2, hk, hM, hl => by
  unfold Took valS
  rw [if_pos (by simp)]
  unfold iter
  dsimp only
  rw [step12 m hm k hk d ⟨h2, by omega⟩ p rest (by omega), if_pos (.inr (by omega))]
 | r + 1, M + 1, k, d, p, rest, h1, h2, hk, hM, hl => by
  have hst := step12 m hm k hk d ⟨h2, by omega⟩ p rest (by omega)
  by_cases hk2 : 200 ≤ k
  ·rw [if_pos (.inl hk2)] at hst
   unfold Took valS
   rw [if_pos hk2, if_pos (by simp)]
   unfold iter
   dsimp only
   rw [hst]
  rw [if_neg (by omega)] at hst
  by_cases hn : nodeE p = 0
  ·rw [if_neg (by simpa using hn)] at hst
   have hv : valS (r + 1) k p = subsS (fun k q => valS r k q.vw) (p.fSubs.take 201) (k + 1) := by
    rw [subsS_take (fun k q h => valS_fine r k q.vw h) p.fSubs (k + 1) (by omega)]
    show (if 200 ≤ k then _ else if nodeE p ≠ 0 then _ else _) = _
    rw [if_neg hk2, if_neg (by simpa using hn)]
   have hlen : (p.fSubs.take 201).length ≤ 201 := by rw [List.length_take]; omega
   have subs : ∀ (l : List P24) (M k : Nat), k ≤ 200 → 202 ≤ M + k → rest.length + l.length ≤ 202 * (k + 1) → Took m (subsS (fun k q => valS r k q.vw) l k) M k (rest ++ (l.map (mk52 (d + 1))).reverse) rest := by
    intro l
    induction l with
    | nil =>
     intro M k hk hM _
     unfold Took subsS
     rw [if_neg (by simp)]
     exact ⟨M, rfl, by simp⟩
    | cons q l ih =>
     intro M k hk hM hlen
     rw [List.length_cons] at hlen
     have h3 := node12 m hm r M k (d + 1) q.vw (rest ++ (l.map (mk52 (d + 1))).reverse) (by omega) (by omega) hk hM (by simp; omega)
     have e : rest ++ ((q :: l).map (mk52 (d + 1))).reverse = rest ++ (l.map (mk52 (d + 1))).reverse ++ [⟨q.vw, d + 1⟩] := by
      rw [List.map_cons, List.reverse_cons, ← List.append_assoc]; rfl
     rw [e]
     unfold subsS
     have hf := valS_fine r k q.vw hk
     by_cases h0 : (valS r k q.vw).1.fCode ≠ 0
     ·rw [if_pos h0]
      unfold Took at h3 ⊢
      rw [if_pos h0] at h3 ⊢
      exact h3
     ·rw [if_neg h0]
      unfold Took at h3
      rw [if_neg h0] at h3
      obtain ⟨M', g1, g2⟩ := h3
      rcases hf with ⟨_, f2, f3⟩ | hf
      ·have h4 := ih M' (valS r k q.vw).2 f3 (by omega) (by omega)
       unfold Took at h4 ⊢
       rw [g2]
       by_cases h5 : (subsS (fun k q => valS r k q.vw) l (valS r k q.vw).2).1.fCode ≠ 0
       ·rw [if_pos h5] at h4 ⊢
        exact h4
       ·rw [if_neg h5] at h4 ⊢
        obtain ⟨M2, q1, q2⟩ := h4
        exact ⟨M2, by omega, q2⟩
      ·exact (h0 hf).elim
   have h3 := subs (p.fSubs.take 201) M (k + 1) (by omega) (by omega) (by omega)
   rw [hv]
   unfold Took at h3 ⊢
   have hit : iter (fun (y : (List S52) × Int) => f12_B4 m y.1 y.2) (M + 1) (rest ++ [⟨p, d⟩], (k : Int)) = iter (fun (y : (List S52) × Int) => f12_B4 m y.1 y.2) M (rest ++ ((p.fSubs.take 201).map (mk52 (d + 1))).reverse, ((k + 1 : Nat) : Int)) := by
    conv => lhs; unfold iter
    dsimp only
    rw [hst]
   rw [hit]
   by_cases h5 : (subsS (fun k q => valS r k q.vw) (p.fSubs.take 201) (k + 1)).1.fCode ≠ 0
   ·rw [if_pos h5] at h3 ⊢
    exact h3
   ·rw [if_neg h5] at h3 ⊢
    obtain ⟨M2, q1, q2⟩ := h3
    exact ⟨M2, by omega, q2⟩
  ·rw [if_pos hn] at hst
   unfold Took valS
   rw [if_neg hk2, if_pos hn, if_pos hn]
   unfold iter
   dsimp only
   rw [hst]
theorem f12_val (m : Nat) (hm : 1000 ≤ m) (p : S24) : f12 m p = some (valS 40 0 p).1 := by
 have h := node12 m hm 40 m 0 1 p [] (by omega) (by omega) (by omega) (by omega) (by simp)
 have hf := valS_fine 40 0 p (by omega)
 unfold f12
 unfold Took at h
 have e : iter (fun (y : (List S52) × Int) => f12_B4 m y.1 y.2) m ([(⟨p, 1⟩ : S52)], 0) = iter (fun (y : (List S52) × Int) => f12_B4 m y.1 y.2) m ([] ++ [(⟨p, 1⟩ : S52)], ((0 : Nat) : Int)) := rfl
 rw [e]
 by_cases h0 : (valS 40 0 p).1.fCode ≠ 0
 ·rw [if_pos h0] at h
  rw [h]
  rfl
 ·rw [if_neg h0] at h
  obtain ⟨M', g1, g2⟩ := h
  rcases hf with ⟨f1, f2, f3⟩ | hf
  ·rw [g2]
   have hB : f12_B4 m [] ((valS 40 0 p).2 : Int) = some (.brk ([], ((valS 40 0 p).2 : Int))) := by
    unfold f12_B4
    rw [decide_eq_false (by simp), cnd_false]
   obtain ⟨M1, rfl⟩ : ∃ q, M' = q + 1 := ⟨M' - 1, by omega⟩
   unfold iter
   dsimp only
   rw [hB, brk_inr, f1]
  ·exact (h0 hf).elim
theorem faults_same (m : Nat) (hm : 1000 ≤ m) (p : S24) : f9 m p = f12 m p := by rw [f9_val m hm, f12_val m hm]
end Go.Abs
