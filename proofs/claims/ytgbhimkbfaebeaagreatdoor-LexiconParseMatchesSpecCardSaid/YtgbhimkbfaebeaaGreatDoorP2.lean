import Derived.Test.YtgbhimkbfaebeaaGreatDoorWF1
import Derived.Test.YtgbhimkbfaebeaaGreatDoorP1
import Derived.Test.YtgbhimkbfaebeaaGreatDoorAbsH
import Derived.Test.YtgbhimkbfaebeaaGreatDoorAbsTO
import Derived.Lib.DecodeN
import Derived.Lib.RuneCount
namespace Go.Abs
open Go.Sort Go.Proofs
set_option linter.unusedVariables false
set_option linter.unusedSimpArgs false
set_option linter.unnecessarySimpa false
set_option maxRecDepth 100000
def letB (c : Int) : Bool := decide (c ≥ 97) && decide (c ≤ 122)
def nameB (c : Int) : Bool := letB c || (decide (c ≥ 48) && decide (c ≤ 57)) || c == 95 || c == 45
def nameS (s : ByteArray) : Bool := decide (1 ≤ s.size ∧ s.size ≤ 30) && (allP (fun i c => letB c || (i != 0 && nameB c)) 0 (byt s))
theorem f40_eq (m : Nat) (s : ByteArray) (hm : 31 < m) : f40 m s = some (nameS s) := by
 unfold f40 f40_r4 nameS
 by_cases h : 1 ≤ s.size ∧ s.size ≤ 30
 ·have hb : ((decide ((s.size : Int) < 1)) || (decide ((s.size : Int) > 30))) = false := by
   simp only [Bool.or_eq_false_iff, decide_eq_false_iff_not]
   omega
  rw [hb, decide_eq_true h, cnd_false, Bool.true_and]
  have e : iter (fun (y : Int) => f40_B3 m s y) m 0 = landed (fun (_ : Unit) (i : Int) => i) (byt s).length (scan (fun i (_ : Unit) c => if letB c || (i != 0 && nameB c) then some (.inr ()) else some (.inl false)) 0 () (byt s)) := by
   refine iter_scan (byt s) (fun (y : Int) => f40_B3 m s y) (fun (_ : Unit) (i : Int) => i) (fun i (_ : Unit) c => if letB c || (i != 0 && nameB c) then some (.inr ()) else some (.inl false)) (fun u k hi => ?_) m 0 () (by omega) (by rw [byt_len]; omega)
   have hl := byt_len s
   unfold f40_B3
   rw [← hl]
   refine body_turn' rfl fun c hc => ?_
   have hw : w64 ((k : Int) + 1) = (k : Int) + 1 := w64_id ⟨by omega, by omega⟩
   rw [sidx_get, hc]
   simp only [bnd_some', f40_r2, f40_r1, hw]
   have key : ((!((decide (c ≥ 97)) && (decide (c ≤ 122)))) && ((((k : Int) == 0) || (((c != 95) && (((c != 45) && (((decide (c < 48)) || (decide (c > 57)))))))))) ) = !(letB c || (((k : Int) != 0) && nameB c)) := by
    rw [Bool.eq_iff_iff]
    simp only [nameB, letB, Bool.and_eq_true, Bool.or_eq_true, Bool.not_eq_true', Bool.or_eq_false_iff, Bool.and_eq_false_iff, decide_eq_true_eq, decide_eq_false_iff_not, bne_iff_ne, beq_iff_eq, bne_eq_false_iff_eq, beq_eq_false_iff_ne, ne_eq]
    omega
   rw [key]
   by_cases q : (letB c || (((k : Int) != 0) && nameB c)) = true
   ·rw [q]; rfl
   ·have q : (letB c || (((k : Int) != 0) && nameB c)) = false := by simpa using q
    rw [q]; rfl
  rw [e, scan_allP]
  cases allP (fun i c => letB c || (i != 0 && nameB c)) 0 (byt s) <;> rfl
 ·have hb : ((decide ((s.size : Int) < 1)) || (decide ((s.size : Int) > 30))) = true := by
   simp only [Bool.or_eq_true, decide_eq_true_eq]
   omega
  rw [hb, decide_eq_false h]
  rfl
def tagsS (l : List ByteArray) : Int := if l.length > 4 then 2 else if l.all nameS then 0 else 10
def bytN (s : ByteArray) : List Nat := s.data.toList.map fun b => b.toNat
theorem bytN_len (s : ByteArray) : (bytN s).length = s.size := by unfold bytN; rw [List.length_map, Array.length_toList]; rfl
theorem byt_bytN (s : ByteArray) : byt s = (bytN s).map fun n : Nat => (n : Int) := by unfold byt bytN; rw [List.map_map]; rfl
theorem bytN_lt (s : ByteArray) : ∀ x ∈ bytN s, x < 256 := by
 intro x hx
 unfold bytN at hx
 obtain ⟨b, _, rfl⟩ := List.mem_map.1 hx
 exact b.toNat_lt
def oneN : List Nat → Option (Nat × Nat)
 | [] => none
 | b0 :: r =>
  if b0 < 128 then some (b0, 1)
  else if b0 < 194 then none
  else if b0 < 224 then (match r with
   | b1 :: _ => if 128 ≤ b1 ∧ b1 ≤ 191 then some ((b0 - 192) * 64 + (b1 - 128), 2) else none
   | _ => none)
  else if b0 < 240 then (match r with
   | b1 :: b2 :: _ => if (128 ≤ b1 ∧ b1 ≤ 191) ∧ (128 ≤ b2 ∧ b2 ≤ 191) ∧ 2048 ≤ (b0 - 224) * 4096 + (b1 - 128) * 64 + (b2 - 128) ∧ ((b0 - 224) * 4096 + (b1 - 128) * 64 + (b2 - 128) < 55296 ∨ 57344 ≤ (b0 - 224) * 4096 + (b1 - 128) * 64 + (b2 - 128)) then some ((b0 - 224) * 4096 + (b1 - 128) * 64 + (b2 - 128), 3) else none
   | _ => none)
  else if b0 < 245 then (match r with
   | b1 :: b2 :: b3 :: _ => if (128 ≤ b1 ∧ b1 ≤ 191) ∧ (128 ≤ b2 ∧ b2 ≤ 191) ∧ (128 ≤ b3 ∧ b3 ≤ 191) ∧ 65536 ≤ (b0 - 240) * 262144 + (b1 - 128) * 4096 + (b2 - 128) * 64 + (b3 - 128) ∧ (b0 - 240) * 262144 + (b1 - 128) * 4096 + (b2 - 128) * 64 + (b3 - 128) ≤ 1114111 then some ((b0 - 240) * 262144 + (b1 - 128) * 4096 + (b2 - 128) * 64 + (b3 - 128), 4) else none
   | _ => none)
  else none
def orBad : Option (Nat × Nat) → Nat × Nat
 | some x => x
 | none => (65533, 1)
theorem get_byt (s : ByteArray) (i k : Nat) : (s.get! (i + k)).toNat = (((bytN s).drop i)[k]?).getD 0 := by
 rw [List.getElem?_drop]
 unfold bytN
 rw [List.getElem?_map, Array.getElem?_toList]
 cases hq : s.data[i + k]? with
 | none =>
  have : s.get! (i + k) = 0 := by
   unfold ByteArray.get!
   simp only [getElem!_def, hq]
   rfl
  rw [this]; rfl
 | some b =>
  have : s.get! (i + k) = b := by
   unfold ByteArray.get!
   simp [getElem!_def, hq]
  rw [this]; rfl
def oneP (n b0 b1 b2 b3 : Nat) : Option (Nat × Nat) :=
 if b0 < 128 then some (b0, 1)
 else if b0 < 194 then none
 else if b0 < 224 then (if 1 < n ∧ 128 ≤ b1 ∧ b1 ≤ 191 then some ((b0 - 192) * 64 + (b1 - 128), 2) else none)
 else if b0 < 240 then (if 2 < n ∧ (128 ≤ b1 ∧ b1 ≤ 191) ∧ (128 ≤ b2 ∧ b2 ≤ 191) ∧ 2048 ≤ (b0 - 224) * 4096 + (b1 - 128) * 64 + (b2 - 128) ∧ ((b0 - 224) * 4096 + (b1 - 128) * 64 + (b2 - 128) < 55296 ∨ 57344 ≤ (b0 - 224) * 4096 + (b1 - 128) * 64 + (b2 - 128)) then some ((b0 - 224) * 4096 + (b1 - 128) * 64 + (b2 - 128), 3) else none)
 else if b0 < 245 then (if 3 < n ∧ (128 ≤ b1 ∧ b1 ≤ 191) ∧ (128 ≤ b2 ∧ b2 ≤ 191) ∧ (128 ≤ b3 ∧ b3 ≤ 191) ∧ 65536 ≤ (b0 - 240) * 262144 + (b1 - 128) * 4096 + (b2 - 128) * 64 + (b3 - 128) ∧ (b0 - 240) * 262144 + (b1 - 128) * 4096 + (b2 - 128) * 64 + (b3 - 128) ≤ 1114111 then some ((b0 - 240) * 262144 + (b1 - 128) * 4096 + (b2 - 128) * 64 + (b3 - 128), 4) else none)
 else none
set_option maxHeartbeats 4000000 in
theorem decodeN_P (n b0 b1 b2 b3 : Nat) (h0 : b0 < 256) (h1 : b1 < 256) (h2 : b2 < 256) (h3 : b3 < 256) : Lib.decodeN n b0 b1 b2 b3 = orBad (oneP n b0 b1 b2 b3) := by
 unfold Lib.decodeN
 by_cases k0 : b0 < 128
 ·have : oneP n b0 b1 b2 b3 = some (b0, 1) := by unfold oneP; rw [if_pos k0]
  rw [if_pos k0, this]; rfl
 rw [if_neg k0]
 by_cases k1 : b0 < 194
 ·have : oneP n b0 b1 b2 b3 = none := by unfold oneP; rw [if_neg k0, if_pos k1]
  rw [this]
  split
  ·rename_i hc; rw [if_neg (by omega)]; rfl
  ·rw [if_neg (by omega), if_neg (by omega)]; rfl
 by_cases k2 : b0 < 224
 ·by_cases c : 1 < n ∧ 128 ≤ b1 ∧ b1 ≤ 191
  ·have : oneP n b0 b1 b2 b3 = some ((b0 - 192) * 64 + (b1 - 128), 2) := by unfold oneP; rw [if_neg k0, if_neg k1, if_pos k2, if_pos c]
   rw [this, if_pos (by omega), if_pos (by omega)]
   have e : b0 % 32 * 64 + b1 % 64 = (b0 - 192) * 64 + (b1 - 128) := by omega
   rw [e]; rfl
  ·have : oneP n b0 b1 b2 b3 = none := by unfold oneP; rw [if_neg k0, if_neg k1, if_pos k2, if_neg c]
   rw [this, if_neg (by omega), if_neg (by omega), if_neg (by omega)]; rfl
 by_cases k3 : b0 < 240
 ·rw [if_neg (by omega)]
  by_cases c : 2 < n ∧ (128 ≤ b1 ∧ b1 ≤ 191) ∧ (128 ≤ b2 ∧ b2 ≤ 191)
  ·have e : b0 % 16 * 4096 + b1 % 64 * 64 + b2 % 64 = (b0 - 224) * 4096 + (b1 - 128) * 64 + (b2 - 128) := by omega
   rw [if_pos (by omega), e]
   by_cases v : 2048 ≤ (b0 - 224) * 4096 + (b1 - 128) * 64 + (b2 - 128) ∧ ((b0 - 224) * 4096 + (b1 - 128) * 64 + (b2 - 128) < 55296 ∨ 57344 ≤ (b0 - 224) * 4096 + (b1 - 128) * 64 + (b2 - 128))
   ·have : oneP n b0 b1 b2 b3 = some ((b0 - 224) * 4096 + (b1 - 128) * 64 + (b2 - 128), 3) := by unfold oneP; rw [if_neg k0, if_neg k1, if_neg k2, if_pos k3, if_pos ⟨c.1, c.2.1, c.2.2, v⟩]
    rw [this, if_pos (by omega)]; rfl
   ·have : oneP n b0 b1 b2 b3 = none := by unfold oneP; rw [if_neg k0, if_neg k1, if_neg k2, if_pos k3, if_neg (fun h => v h.2.2.2)]
    rw [this, if_neg (by omega)]; rfl
  ·have : oneP n b0 b1 b2 b3 = none := by unfold oneP; rw [if_neg k0, if_neg k1, if_neg k2, if_pos k3, if_neg (fun h => c ⟨h.1, h.2.1, h.2.2.1⟩)]
   rw [this, if_neg (by omega), if_neg (by omega)]; rfl
 rw [if_neg (by omega), if_neg (by omega)]
 by_cases k4 : b0 < 245
 ·by_cases c : 3 < n ∧ (128 ≤ b1 ∧ b1 ≤ 191) ∧ (128 ≤ b2 ∧ b2 ≤ 191) ∧ (128 ≤ b3 ∧ b3 ≤ 191)
  ·have e : b0 % 8 * 262144 + b1 % 64 * 4096 + b2 % 64 * 64 + b3 % 64 = (b0 - 240) * 262144 + (b1 - 128) * 4096 + (b2 - 128) * 64 + (b3 - 128) := by omega
   rw [if_pos (by omega), e]
   by_cases v : 65536 ≤ (b0 - 240) * 262144 + (b1 - 128) * 4096 + (b2 - 128) * 64 + (b3 - 128) ∧ (b0 - 240) * 262144 + (b1 - 128) * 4096 + (b2 - 128) * 64 + (b3 - 128) ≤ 1114111
   ·have : oneP n b0 b1 b2 b3 = some ((b0 - 240) * 262144 + (b1 - 128) * 4096 + (b2 - 128) * 64 + (b3 - 128), 4) := by unfold oneP; rw [if_neg k0, if_neg k1, if_neg k2, if_neg k3, if_pos k4, if_pos ⟨c.1, c.2.1, c.2.2.1, c.2.2.2, v⟩]
    rw [this, if_pos (by omega)]; rfl
   ·have : oneP n b0 b1 b2 b3 = none := by unfold oneP; rw [if_neg k0, if_neg k1, if_neg k2, if_neg k3, if_pos k4, if_neg (fun h => v h.2.2.2.2)]
    rw [this, if_neg (by omega)]; rfl
  ·have : oneP n b0 b1 b2 b3 = none := by unfold oneP; rw [if_neg k0, if_neg k1, if_neg k2, if_neg k3, if_pos k4, if_neg (fun h => c ⟨h.1, h.2.1, h.2.2.1, h.2.2.2.1⟩)]
   rw [this, if_neg (by omega)]; rfl
 ·have : oneP n b0 b1 b2 b3 = none := by unfold oneP; rw [if_neg k0, if_neg k1, if_neg k2, if_neg k3, if_neg k4]
  rw [this]
  split
  ·rw [if_neg (by omega)]; rfl
  ·rfl
theorem oneN_P : ∀ (l : List Nat), l ≠ [] → oneN l = oneP l.length ((l[0]?).getD 0) ((l[1]?).getD 0) ((l[2]?).getD 0) ((l[3]?).getD 0)
 | [], h => (h rfl).elim
 | [b0], _ => by simp [oneN, oneP]
 | [b0, b1], _ => by simp [oneN, oneP]
 | [b0, b1, b2], _ => by simp [oneN, oneP]
 | b0 :: b1 :: b2 :: b3 :: r, _ => by simp [oneN, oneP]
theorem decodeN_one (l : List Nat) (hne : l ≠ []) (hl : ∀ x ∈ l, x < 256) : Lib.decodeN l.length ((l[0]?).getD 0) ((l[1]?).getD 0) ((l[2]?).getD 0) ((l[3]?).getD 0) = orBad (oneN l) := by
 have hk : ∀ k : Nat, (l[k]?).getD 0 < 256 := by
  intro k
  cases hq : l[k]? with
  | none => decide
  | some x => exact hl x (List.mem_of_getElem? hq)
 rw [oneN_P l hne, decodeN_P _ _ _ _ _ (hk 0) (hk 1) (hk 2) (hk 3)]
theorem decode_one (s : ByteArray) (i : Nat) (hi : i < s.size) : Utf8.decode s i = orBad (oneN ((bytN s).drop i)) := by
 rw [Lib.decode_at]
 have hlen : ((bytN s).drop i).length = s.size - i := by rw [List.length_drop, bytN_len]
 have e0 := get_byt s i 0
 have e1 := get_byt s i 1
 have e2 := get_byt s i 2
 have e3 := get_byt s i 3
 rw [Nat.add_zero] at e0
 rw [e0, e1, e2, e3, ← hlen]
 refine decodeN_one _ (fun h => ?_) (fun x hx => bytN_lt s x (List.mem_of_mem_drop hx))
 have h2 := congrArg List.length h
 rw [hlen] at h2
 simp only [List.length_nil] at h2
 omega
inductive One : List Nat → Nat → Nat → Prop
 | w1 (b0 : Nat) (r : List Nat) (h : b0 < 128) : One (b0 :: r) b0 1
 | w2 (b0 b1 : Nat) (r : List Nat) (h : 194 ≤ b0 ∧ b0 < 224) (h1 : 128 ≤ b1 ∧ b1 ≤ 191) : One (b0 :: b1 :: r) ((b0 - 192) * 64 + (b1 - 128)) 2
 | w3 (b0 b1 b2 : Nat) (r : List Nat) (h : 224 ≤ b0 ∧ b0 < 240) (h1 : 128 ≤ b1 ∧ b1 ≤ 191) (h2 : 128 ≤ b2 ∧ b2 ≤ 191)
   (h3 : 2048 ≤ (b0 - 224) * 4096 + (b1 - 128) * 64 + (b2 - 128) ∧ ((b0 - 224) * 4096 + (b1 - 128) * 64 + (b2 - 128) < 55296 ∨ 57344 ≤ (b0 - 224) * 4096 + (b1 - 128) * 64 + (b2 - 128))) :
   One (b0 :: b1 :: b2 :: r) ((b0 - 224) * 4096 + (b1 - 128) * 64 + (b2 - 128)) 3
 | w4 (b0 b1 b2 b3 : Nat) (r : List Nat) (h : 240 ≤ b0 ∧ b0 < 245) (h1 : 128 ≤ b1 ∧ b1 ≤ 191) (h2 : 128 ≤ b2 ∧ b2 ≤ 191) (h3 : 128 ≤ b3 ∧ b3 ≤ 191)
   (h4 : 65536 ≤ (b0 - 240) * 262144 + (b1 - 128) * 4096 + (b2 - 128) * 64 + (b3 - 128) ∧ (b0 - 240) * 262144 + (b1 - 128) * 4096 + (b2 - 128) * 64 + (b3 - 128) ≤ 1114111) :
   One (b0 :: b1 :: b2 :: b3 :: r) ((b0 - 240) * 262144 + (b1 - 128) * 4096 + (b2 - 128) * 64 + (b3 - 128)) 4
theorem oneN_One {l : List Nat} {p w : Nat} (h : oneN l = some (p, w)) : One l p w := by
 unfold oneN at h
 split at h
 ·cases h
 ·rename_i b0 r
  split at h
  ·cases h; exact .w1 _ _ (by assumption)
  ·split at h
   ·cases h
   ·split at h
    ·split at h
     ·split at h
      ·rename_i hc; simp only [Option.some.injEq, Prod.mk.injEq] at h; obtain ⟨rfl, rfl⟩ := h; exact .w2 _ _ _ ⟨by omega, by omega⟩ hc
      ·cases h
     ·cases h
    ·split at h
     ·split at h
      ·split at h
       ·rename_i hc; simp only [Option.some.injEq, Prod.mk.injEq] at h; obtain ⟨rfl, rfl⟩ := h; exact .w3 _ _ _ _ ⟨by omega, by omega⟩ hc.1 hc.2.1 hc.2.2
       ·cases h
      ·cases h
     ·split at h
      ·split at h
       ·split at h
        ·rename_i hc; simp only [Option.some.injEq, Prod.mk.injEq] at h; obtain ⟨rfl, rfl⟩ := h; exact .w4 _ _ _ _ _ ⟨by omega, by omega⟩ hc.1 hc.2.1 hc.2.2.1 hc.2.2.2
        ·cases h
       ·cases h
      ·cases h
theorem One.toN {l : List Nat} {p w : Nat} (h : One l p w) : oneN l = some (p, w) := by
 cases h with
 | w1 b0 r h => simp only [oneN]; rw [if_pos h]
 | w2 b0 b1 r h h1 => simp only [oneN]; rw [if_neg (by omega), if_neg (by omega), if_pos h.2, if_pos h1]
 | w3 b0 b1 b2 r h h1 h2 h3 => simp only [oneN]; rw [if_neg (by omega), if_neg (by omega), if_neg (by omega), if_pos h.2, if_pos ⟨h1, h2, h3⟩]
 | w4 b0 b1 b2 b3 r h h1 h2 h3 h4 => simp only [oneN]; rw [if_neg (by omega), if_neg (by omega), if_neg (by omega), if_neg (by omega), if_pos h.2, if_pos ⟨h1, h2, h3, h4⟩]
theorem One.app {a b : List Nat} {p w : Nat} (h : One a p w) : One (a ++ b) p w := by
 cases h with
 | w1 b0 r h => exact .w1 _ _ h
 | w2 b0 b1 r h h1 => exact .w2 _ _ _ h h1
 | w3 b0 b1 b2 r h h1 h2 h3 => exact .w3 _ _ _ _ h h1 h2 h3
 | w4 b0 b1 b2 b3 r h h1 h2 h3 h4 => exact .w4 _ _ _ _ _ h h1 h2 h3 h4
theorem One.cut {a b : List Nat} {p w : Nat} (h : One (a ++ b) p w) (hw : w ≤ a.length) : One a p w := by
 generalize hl : a ++ b = l at h
 cases h with
 | w1 b0 r h =>
  match a, hl, hw with
  | x :: a, hl, _ => simp only [List.cons_append, List.cons.injEq] at hl; rw [hl.1]; exact .w1 _ _ h
 | w2 b0 b1 r h h1 =>
  match a, hl, hw with
  | [x], hl, hw => simp at hw
  | x :: y :: a, hl, _ => simp only [List.cons_append, List.cons.injEq] at hl; rw [hl.1, hl.2.1]; exact .w2 _ _ _ h h1
 | w3 b0 b1 b2 r h h1 h2 h3 =>
  match a, hl, hw with
  | [x], hl, hw => simp at hw
  | [x, y], hl, hw => simp at hw
  | x :: y :: z :: a, hl, _ => simp only [List.cons_append, List.cons.injEq] at hl; rw [hl.1, hl.2.1, hl.2.2.1]; exact .w3 _ _ _ _ h h1 h2 h3
 | w4 b0 b1 b2 b3 r h h1 h2 h3 h4 =>
  match a, hl, hw with
  | [x], hl, hw => simp at hw
  | [x, y], hl, hw => simp at hw
  | [x, y, z], hl, hw => simp at hw
  | x :: y :: z :: u :: a, hl, _ => simp only [List.cons_append, List.cons.injEq] at hl; rw [hl.1, hl.2.1, hl.2.2.1, hl.2.2.2.1]; exact .w4 _ _ _ _ _ h h1 h2 h3 h4
theorem byt_get (s : ByteArray) (i k : Nat) : sidx s ((i + k : Nat) : Int) = (((bytN s).drop i)[k]?).map fun n : Nat => (n : Int) := by
 rw [sidx_get, byt_bytN, List.getElem?_map, List.getElem?_drop]
theorem oneN_w {l : List Nat} {p w : Nat} (h : oneN l = some (p, w)) : 1 ≤ w ∧ w ≤ 4 ∧ w ≤ l.length ∧ p ≤ 1114111 ∧ (w = 1 → p < 128) ∧ (w = 2 → 128 ≤ p ∧ p < 2048) ∧ (w = 3 → 2048 ≤ p ∧ p < 65536) ∧ (w = 4 → 65536 ≤ p) := by
 cases oneN_One h with
 | w1 b0 r h => simp only [List.length_cons]; omega
 | w2 b0 b1 r h h1 => simp only [List.length_cons]; omega
 | w3 b0 b1 b2 r h h1 h2 h3 => simp only [List.length_cons]; omega
 | w4 b0 b1 b2 b3 r h h1 h2 h3 h4 => simp only [List.length_cons]; omega
def conts : Nat → List Nat → Nat → Option Nat
 | v, _, 0 => some v
 | v, b :: l, d + 1 => if 128 ≤ b ∧ b ≤ 191 then conts (v * 64 + (b - 128)) l d else none
 | v, [], d + 1 => none
def BB : Nat → Nat
 | 3 => 100
 | 2 => 6500
 | 1 => 420000
 | _ => 27000000
theorem BB_step (d : Nat) (hd : d + 1 ≤ 3) : BB (d + 1) * 64 + 63 ≤ BB d := by
 have : d = 0 ∨ d = 1 ∨ d = 2 := by omega
 rcases this with rfl | rfl | rfl <;> decide
theorem BB_le (d : Nat) : BB d ≤ 27000000 := by
 match d with
 | 0 => decide
 | 1 => decide
 | 2 => decide
 | 3 => decide
 | d + 4 => exact Nat.le_refl _
def fin (n : Nat) : Option Nat → Int
 | some r => if (r < 55296 ∨ (57344 ≤ r ∧ r ≤ 1114111)) ∧ (if r < 128 then 1 else if r < 2048 then 2 else if r < 65536 then 3 else 4) = n then (r : Int) else -1
 | none => -1
set_option maxRecDepth 100000 in
def oneS (l : List Nat) : Int := match oneN l with
 | some (p, _) => (p : Int)
 | none => -1
theorem lead4 (b0 : Nat) (h : 240 ≤ b0 ∧ b0 < 256) : ∀ rest : List Nat, (if 3 ≤ rest.length then fin 4 (conts (b0 - 240) rest 3) else -1) = oneS (b0 :: rest)
 | [] => by
  have : oneN [b0] = none := by simp only [oneN]; rw [if_neg (by omega), if_neg (by omega), if_neg (by omega), if_neg (by omega)]; split <;> rfl
  unfold oneS; rw [this]; rfl
 | [x] => by
  have : oneN [b0, x] = none := by simp only [oneN]; rw [if_neg (by omega), if_neg (by omega), if_neg (by omega), if_neg (by omega)]; split <;> rfl
  unfold oneS; rw [this]; rfl
 | [x, y] => by
  have : oneN [b0, x, y] = none := by simp only [oneN]; rw [if_neg (by omega), if_neg (by omega), if_neg (by omega), if_neg (by omega)]; split <;> rfl
  unfold oneS; rw [this]; rfl
 | x :: y :: z :: r => by
  rw [if_pos (by simp only [List.length_cons]; omega)]
  have e : oneN (b0 :: x :: y :: z :: r) = if b0 < 245 then (if (128 ≤ x ∧ x ≤ 191) ∧ (128 ≤ y ∧ y ≤ 191) ∧ (128 ≤ z ∧ z ≤ 191) ∧ 65536 ≤ (b0 - 240) * 262144 + (x - 128) * 4096 + (y - 128) * 64 + (z - 128) ∧ (b0 - 240) * 262144 + (x - 128) * 4096 + (y - 128) * 64 + (z - 128) ≤ 1114111 then some ((b0 - 240) * 262144 + (x - 128) * 4096 + (y - 128) * 64 + (z - 128), 4) else none) else none := by
   simp only [oneN]; rw [if_neg (by omega), if_neg (by omega), if_neg (by omega), if_neg (by omega)]
  have e2 : conts (b0 - 240) (x :: y :: z :: r) 3 = if (128 ≤ x ∧ x ≤ 191) ∧ (128 ≤ y ∧ y ≤ 191) ∧ (128 ≤ z ∧ z ≤ 191) then some ((((b0 - 240) * 64 + (x - 128)) * 64 + (y - 128)) * 64 + (z - 128)) else none := by
   simp only [conts]
   by_cases h1 : 128 ≤ x ∧ x ≤ 191
   ·by_cases h2 : 128 ≤ y ∧ y ≤ 191
    ·by_cases h3 : 128 ≤ z ∧ z ≤ 191
     ·rw [if_pos h1, if_pos h2, if_pos h3, if_pos ⟨h1, h2, h3⟩]
     ·rw [if_pos h1, if_pos h2, if_neg h3, if_neg (fun h => h3 h.2.2)]
    ·rw [if_pos h1, if_neg h2, if_neg (fun h => h2 h.2.1)]
   ·rw [if_neg h1, if_neg (fun h => h1 h.1)]
  unfold oneS
  rw [e, e2]
  by_cases hc : (128 ≤ x ∧ x ≤ 191) ∧ (128 ≤ y ∧ y ≤ 191) ∧ (128 ≤ z ∧ z ≤ 191)
  ·rw [if_pos hc]
   have e3 : (((b0 - 240) * 64 + (x - 128)) * 64 + (y - 128)) * 64 + (z - 128) = (b0 - 240) * 262144 + (x - 128) * 4096 + (y - 128) * 64 + (z - 128) := by omega
   rw [e3]
   by_cases hr : 65536 ≤ (b0 - 240) * 262144 + (x - 128) * 4096 + (y - 128) * 64 + (z - 128) ∧ (b0 - 240) * 262144 + (x - 128) * 4096 + (y - 128) * 64 + (z - 128) ≤ 1114111
   ·rw [if_pos (by omega), if_pos ⟨hc.1, hc.2.1, hc.2.2, hr⟩]
    simp only [fin]
    rw [if_neg (by omega : ¬ (b0 - 240) * 262144 + (x - 128) * 4096 + (y - 128) * 64 + (z - 128) < 128), if_neg (by omega : ¬ (b0 - 240) * 262144 + (x - 128) * 4096 + (y - 128) * 64 + (z - 128) < 2048), if_neg (by omega : ¬ (b0 - 240) * 262144 + (x - 128) * 4096 + (y - 128) * 64 + (z - 128) < 65536), if_pos ⟨by omega, rfl⟩]
   ·have hn : (if b0 < 245 then (if (128 ≤ x ∧ x ≤ 191) ∧ (128 ≤ y ∧ y ≤ 191) ∧ (128 ≤ z ∧ z ≤ 191) ∧ 65536 ≤ (b0 - 240) * 262144 + (x - 128) * 4096 + (y - 128) * 64 + (z - 128) ∧ (b0 - 240) * 262144 + (x - 128) * 4096 + (y - 128) * 64 + (z - 128) ≤ 1114111 then some ((b0 - 240) * 262144 + (x - 128) * 4096 + (y - 128) * 64 + (z - 128), 4) else none) else none : Option (Nat × Nat)) = none := by
     split
     ·rw [if_neg (fun h => hr h.2.2.2)]
     ·rfl
    rw [hn]
    simp only [fin]
    refine if_neg fun hh => hr ?_
    obtain ⟨h1, h2⟩ := hh
    split at h2
    ·omega
    ·split at h2
     ·omega
     ·split at h2
      ·omega
      ·omega
  ·rw [if_neg hc]
   have hn : (if b0 < 245 then (if (128 ≤ x ∧ x ≤ 191) ∧ (128 ≤ y ∧ y ≤ 191) ∧ (128 ≤ z ∧ z ≤ 191) ∧ 65536 ≤ (b0 - 240) * 262144 + (x - 128) * 4096 + (y - 128) * 64 + (z - 128) ∧ (b0 - 240) * 262144 + (x - 128) * 4096 + (y - 128) * 64 + (z - 128) ≤ 1114111 then some ((b0 - 240) * 262144 + (x - 128) * 4096 + (y - 128) * 64 + (z - 128), 4) else none) else none : Option (Nat × Nat)) = none := by
    split
    ·rw [if_neg (fun h => hc ⟨h.1, h.2.1, h.2.2.1⟩)]
    ·rfl
   rw [hn]; rfl
theorem lead3 (b0 : Nat) (h : 224 ≤ b0 ∧ b0 < 240) : ∀ rest : List Nat, (if 2 ≤ rest.length then fin 3 (conts (b0 - 224) rest 2) else -1) = oneS (b0 :: rest)
 | [] => by
  have : oneN [b0] = none := by simp only [oneN]; rw [if_neg (by omega), if_neg (by omega), if_neg (by omega), if_pos h.2]
  unfold oneS; rw [this]; rfl
 | [x] => by
  have : oneN [b0, x] = none := by simp only [oneN]; rw [if_neg (by omega), if_neg (by omega), if_neg (by omega), if_pos h.2]
  unfold oneS; rw [this]; rfl
 | x :: y :: r => by
  rw [if_pos (by simp only [List.length_cons]; omega)]
  have e : oneN (b0 :: x :: y :: r) = if (128 ≤ x ∧ x ≤ 191) ∧ (128 ≤ y ∧ y ≤ 191) ∧ 2048 ≤ (b0 - 224) * 4096 + (x - 128) * 64 + (y - 128) ∧ ((b0 - 224) * 4096 + (x - 128) * 64 + (y - 128) < 55296 ∨ 57344 ≤ (b0 - 224) * 4096 + (x - 128) * 64 + (y - 128)) then some ((b0 - 224) * 4096 + (x - 128) * 64 + (y - 128), 3) else none := by
   simp only [oneN]; rw [if_neg (by omega), if_neg (by omega), if_neg (by omega), if_pos h.2]
  have e2 : conts (b0 - 224) (x :: y :: r) 2 = if (128 ≤ x ∧ x ≤ 191) ∧ (128 ≤ y ∧ y ≤ 191) then some (((b0 - 224) * 64 + (x - 128)) * 64 + (y - 128)) else none := by
   simp only [conts]
   by_cases h1 : 128 ≤ x ∧ x ≤ 191
   ·by_cases h2 : 128 ≤ y ∧ y ≤ 191
    ·rw [if_pos h1, if_pos h2, if_pos ⟨h1, h2⟩]
    ·rw [if_pos h1, if_neg h2, if_neg (fun h => h2 h.2)]
   ·rw [if_neg h1, if_neg (fun h => h1 h.1)]
  unfold oneS
  rw [e, e2]
  by_cases hc : (128 ≤ x ∧ x ≤ 191) ∧ (128 ≤ y ∧ y ≤ 191)
  ·rw [if_pos hc]
   have e3 : ((b0 - 224) * 64 + (x - 128)) * 64 + (y - 128) = (b0 - 224) * 4096 + (x - 128) * 64 + (y - 128) := by omega
   rw [e3]
   by_cases hr : 2048 ≤ (b0 - 224) * 4096 + (x - 128) * 64 + (y - 128) ∧ ((b0 - 224) * 4096 + (x - 128) * 64 + (y - 128) < 55296 ∨ 57344 ≤ (b0 - 224) * 4096 + (x - 128) * 64 + (y - 128))
   ·rw [if_pos ⟨hc.1, hc.2, hr⟩]
    simp only [fin]
    rw [if_neg (by omega : ¬ (b0 - 224) * 4096 + (x - 128) * 64 + (y - 128) < 128), if_neg (by omega : ¬ (b0 - 224) * 4096 + (x - 128) * 64 + (y - 128) < 2048), if_pos (by omega : (b0 - 224) * 4096 + (x - 128) * 64 + (y - 128) < 65536), if_pos ⟨by omega, rfl⟩]
   ·rw [if_neg (fun h => hr h.2.2)]
    simp only [fin]
    refine if_neg fun hh => hr ?_
    obtain ⟨h1, h2⟩ := hh
    split at h2
    ·omega
    ·split at h2
     ·omega
     ·split at h2
      ·omega
      ·omega
  ·rw [if_neg hc, if_neg (fun h => hc ⟨h.1, h.2.1⟩)]; rfl
theorem lead2 (b0 : Nat) (h : 192 ≤ b0 ∧ b0 < 224) : ∀ rest : List Nat, (if 1 ≤ rest.length then fin 2 (conts (b0 - 192) rest 1) else -1) = oneS (b0 :: rest)
 | [] => by
  have : oneN [b0] = none := by
   simp only [oneN]; rw [if_neg (by omega)]
   split
   ·rfl
   ·rw [if_pos h.2]
  unfold oneS; rw [this]; rfl
 | x :: r => by
  rw [if_pos (by simp only [List.length_cons]; omega)]
  have e : oneN (b0 :: x :: r) = if b0 < 194 then none else if 128 ≤ x ∧ x ≤ 191 then some ((b0 - 192) * 64 + (x - 128), 2) else none := by
   simp only [oneN]; rw [if_neg (by omega), if_pos h.2]
  have e2 : conts (b0 - 192) (x :: r) 1 = if 128 ≤ x ∧ x ≤ 191 then some ((b0 - 192) * 64 + (x - 128)) else none := by simp only [conts]
  unfold oneS
  rw [e, e2]
  by_cases hc : 128 ≤ x ∧ x ≤ 191
  ·rw [if_pos hc, if_pos hc]
   by_cases hr : b0 < 194
   ·rw [if_pos hr]
    simp only [fin]
    rw [if_pos (by omega : (b0 - 192) * 64 + (x - 128) < 128), if_neg (fun h => by cases h.2)]
   ·rw [if_neg hr]
    simp only [fin]
    rw [if_neg (by omega : ¬ (b0 - 192) * 64 + (x - 128) < 128), if_pos (by omega : (b0 - 192) * 64 + (x - 128) < 2048), if_pos ⟨by omega, rfl⟩]
  ·rw [if_neg hc, if_neg hc]
   have : (if b0 < 194 then none else none : Option (Nat × Nat)) = none := by split <;> rfl
   rw [this]; rfl
theorem One.width {l : List Nat} {p w : Nat} (h : One l p w) : 1 ≤ w ∧ w ≤ l.length := by
 have := oneN_w h.toN
 exact ⟨this.1, this.2.2.1⟩
def pts : Nat → List Nat → Option (List Nat)
 | _, [] => some []
 | 0, _ :: _ => none
 | n + 1, b :: l => match oneN (b :: l) with
  | some (p, w) => (pts n ((b :: l).drop w)).map (p :: ·)
  | none => none
theorem pts_fuel : ∀ (n m : Nat) (l : List Nat), l.length ≤ n → l.length ≤ m → pts n l = pts m l
 | 0, 0, [], _, _ => rfl
 | 0, m + 1, [], _, _ => rfl
 | n + 1, 0, [], _, _ => rfl
 | n + 1, m + 1, [], _, _ => rfl
 | 0, _, b :: l, h, _ => by simp at h
 | n + 1, 0, b :: l, _, h => by simp at h
 | n + 1, m + 1, b :: l, h1, h2 => by
  simp only [pts]
  cases hq : oneN (b :: l) with
  | none => rfl
  | some x =>
   obtain ⟨p, w⟩ := x
   have hw := (oneN_One hq).width
   have : ((b :: l).drop w).length ≤ n ∧ ((b :: l).drop w).length ≤ m := by
    rw [List.length_drop]
    simp only [List.length_cons] at h1 h2 hw ⊢
    omega
   simp only
   rw [pts_fuel n m _ this.1 this.2]
def ptsB (l : List Nat) : Option (List Nat) := pts l.length l
theorem ptsB_nil : ptsB [] = some [] := rfl
theorem ptsB_bad {l : List Nat} (hne : l ≠ []) (h : oneN l = none) : ptsB l = none := by
 cases l with
 | nil => exact (hne rfl).elim
 | cons b l => unfold ptsB; simp only [List.length_cons, pts, h]
theorem ptsB_one {l : List Nat} {p w : Nat} (h : oneN l = some (p, w)) : ptsB l = (ptsB (l.drop w)).map (p :: ·) := by
 cases l with
 | nil => cases h
 | cons b l =>
  have hw := (oneN_One h).width
  unfold ptsB
  simp only [List.length_cons, pts, h]
  rw [pts_fuel l.length ((b :: l).drop w).length _ (by rw [List.length_drop]; simp only [List.length_cons]; omega) (Nat.le_refl _)]
theorem ptsB_len : ∀ (n : Nat) (l L : List Nat), l.length ≤ n → ptsB l = some L → L.length ≤ l.length ∧ l.length ≤ 4 * L.length ∧ ∀ p ∈ L, p ≤ 1114111
 | n, [], L, _, h => by rw [ptsB_nil] at h; cases h; exact ⟨Nat.le_refl _, Nat.le_refl _, fun p hp => by cases hp⟩
 | 0, x :: a, L, hn, h => by simp at hn
 | n + 1, x :: a, L, hn, h => by
  cases hq : oneN (x :: a) with
  | none => rw [ptsB_bad (by simp) hq] at h; cases h
  | some y =>
   obtain ⟨p, w⟩ := y
   obtain ⟨g1, g2, g3, g4, _⟩ := oneN_w hq
   rw [ptsB_one hq] at h
   obtain ⟨L', hL, rfl⟩ := Option.map_eq_some_iff.1 h
   have ih := ptsB_len n _ L' (by rw [List.length_drop]; simp only [List.length_cons] at hn ⊢; omega) hL
   rw [List.length_drop] at ih
   refine ⟨by simp only [List.length_cons] at *; omega, by simp only [List.length_cons] at *; omega, fun q hq => ?_⟩
   rcases List.mem_cons.1 hq with rfl | hq
   ·exact g4
   ·exact ih.2.2 q hq
def ptsS (s : ByteArray) : Option (List Nat) := ptsB (bytN s)
theorem bytN_extract (s : ByteArray) (i j : Nat) : bytN (s.extract i j) = ((bytN s).drop i).take (j - i) := by
 unfold bytN
 rw [ByteArray.data_extract, Array.toList_extract]
 simp only [List.extract_eq_take_drop, List.map_take, List.map_drop]
theorem tl_eq (a b : ByteArray) : (a.toList == b.toList) = decide (a = b) := by
 rw [Lib.toList_data, Lib.toList_data]
 by_cases h : a = b
 ·subst h; simp
 ·have : a.data.toList ≠ b.data.toList := fun e => h (by
   have h2 : a.data = b.data := by rw [← Array.toArray_toList (xs := a.data), e, Array.toArray_toList]
   cases a; cases b; simp only at h2; rw [h2])
  rw [decide_eq_false h]
  simpa using this
def castL (L : List Nat) : List Int := L.map fun n : Nat => (n : Int)
theorem bytN_all (s : ByteArray) (i : Nat) : bytN (s.extract i s.size) = (bytN s).drop i := by
 rw [bytN_extract, List.take_of_length_le (by rw [List.length_drop, bytN_len]; omega)]
theorem f53_loop (m : Nat) (s : ByteArray) (hs : s.size ≤ 4000) : ∀ (K i : Nat) (acc : List Int), i ≤ s.size → s.size - i < K → acc.length ≤ i →
  (∀ L, ptsB ((bytN s).drop i) = some L → iter (fun (y : (List Int) × Int) => f53_B2 m s y.1 y.2) K (acc, (i : Int)) = some (.inr (acc ++ castL L, (s.size : Int)))) ∧
  (ptsB ((bytN s).drop i) = none → ∃ j, iter (fun (y : (List Int) × Int) => f53_B2 m s y.1 y.2) K (acc, (i : Int)) = some (.inl ([], ⟨5, j⟩)))
 | 0, i, acc, h1, h2, h3 => by omega
 | K + 1, i, acc, h1, h2, h3 => by
  by_cases hlt : i < s.size
  ·have hne : (bytN s).drop i ≠ [] := fun e => by have := List.drop_eq_nil_iff.1 e; rw [bytN_len] at this; omega
   have hsub : ssub s (i : Int) (s.size : Int) = some (s.extract i s.size) := by
    unfold ssub; rw [if_pos ⟨by omega, by omega, by omega⟩, Int.toNat_natCast, Int.toNat_natCast]
   have hsz : (s.extract i s.size).size = s.size - i := by rw [← bytN_len, bytN_all, List.length_drop, bytN_len]
   have hdec : Lib.decodeGo (s.extract i s.size) = orBad (oneN ((bytN s).drop i)) := by
    unfold Lib.decodeGo
    rw [if_neg (by omega), decode_one _ 0 (by omega), bytN_all, List.drop_zero]
   have e0 : f53_B2 m s acc (i : Int) = f53_r1 m acc (i : Int) (((orBad (oneN ((bytN s).drop i))).1 : Int), ((orBad (oneN ((bytN s).drop i))).2 : Int)) ((((orBad (oneN ((bytN s).drop i))).1 : Int) == 65533) && (decide (((orBad (oneN ((bytN s).drop i))).2 : Int) ≤ 1))) := by
    unfold f53_B2
    rw [decide_eq_true (by omega), cnd_true, hsub]
    simp only [bnd_some', f83, hdec]
   cases hq : oneN ((bytN s).drop i) with
   | none =>
    rw [hq] at e0
    refine ⟨fun L hL => ?_, fun _ => ⟨(i : Int), ?_⟩⟩
    ·rw [ptsB_bad hne hq] at hL; cases hL
    ·unfold iter
     simp only [e0, orBad]
     rfl
   | some y =>
    obtain ⟨p, w⟩ := y
    rw [hq] at e0
    obtain ⟨g1, g2, g3, g4, g5, _⟩ := oneN_w hq
    rw [List.length_drop, bytN_len] at g3
    have hc : (((p : Int) == 65533) && (decide ((w : Int) ≤ 1))) = false := by
     by_cases hw : w = 1
     ·have := g5 hw
      have : ((p : Int) == 65533) = false := by simp only [beq_eq_false_iff_ne, ne_eq]; omega
      rw [this]; rfl
     ·rw [decide_eq_false (by omega), Bool.and_false]
    have hw1 : w64 (p : Int) = (p : Int) := w64_id ⟨by omega, by omega⟩
    have hw2 : w64 ((i : Int) + (w : Int)) = ((i + w : Nat) : Int) := by rw [w64_id ⟨by omega, by omega⟩]; omega
    have e1 : f53_B2 m s acc (i : Int) = some (.nxt (acc ++ [(p : Int)], ((i + w : Nat) : Int))) := by
     rw [e0]
     show f53_r1 m acc (i : Int) ((p : Int), (w : Int)) (((p : Int) == 65533) && (decide ((w : Int) ≤ 1))) = _
     rw [hc]
     simp only [f53_r1, cnd_false, hw1, hw2]
     rw [app_some 8 acc [(p : Int)] (by simp only [List.length_cons, List.length_nil]; omega) (by simp only [List.length_cons, List.length_nil]; omega)]
     rfl
    have ih := f53_loop m s hs K (i + w) (acc ++ [(p : Int)]) (by omega) (by omega) (by simp only [List.length_append, List.length_cons, List.length_nil]; omega)
    rw [ptsB_one hq, List.drop_drop]
    refine ⟨fun L hL => ?_, fun hn => ?_⟩
    ·obtain ⟨L', hL', rfl⟩ := Option.map_eq_some_iff.1 hL
     have := ih.1 L' hL'
     unfold iter
     simp only [e1]
     rw [this]
     simp [castL]
    ·obtain ⟨j, hj⟩ := ih.2 (by simpa using hn)
     refine ⟨j, ?_⟩
     unfold iter
     simp only [e1]
     exact hj
  ·have hi : i = s.size := by omega
   have hd : (bytN s).drop i = [] := List.drop_eq_nil_iff.2 (by rw [bytN_len]; omega)
   rw [hd]
   refine ⟨fun L hL => ?_, fun hn => by cases hn⟩
   rw [ptsB_nil] at hL
   cases hL
   unfold iter
   have e0 : f53_B2 m s acc (i : Int) = some (.brk (acc, (i : Int))) := by
    unfold f53_B2
    rw [decide_eq_false (by omega), cnd_false]
   simp only [e0]
   rw [hi]
   simp [castL]
theorem f53_eq (m : Nat) (s : ByteArray) (hm : 4001 < m) : (∀ L, s.size ≤ 4000 → ptsS s = some L → f53 m s = some (castL L, ⟨0, 0⟩)) ∧ ((¬ s.size ≤ 4000 ∨ ptsS s = none) → ∃ c j, c ≠ 0 ∧ f53 m s = some ([], ⟨c, j⟩)) := by
 by_cases hs : s.size ≤ 4000
 ·have h := f53_loop m s hs m 0 [] (by omega) (by omega) (Nat.le_refl _)
  rw [List.drop_zero] at h
  have e0 : f53 m s = brk (iter (fun (y : (List Int) × Int) => f53_B2 m s y.1 y.2) m ([], ((0 : Nat) : Int))) some fun y49 => some ((y49.1, (⟨0, 0⟩ : S26))) := by
   unfold f53
   rw [decide_eq_false (by omega), cnd_false]
   rfl
  refine ⟨fun L _ hL => ?_, fun hn => ?_⟩
  ·rw [e0, h.1 L hL]; simp
  ·rcases hn with hn | hn
   ·exact (hn hs).elim
   ·obtain ⟨j, hj⟩ := h.2 hn
    exact ⟨5, j, by decide, by rw [e0, hj]; rfl⟩
 ·refine ⟨fun L h _ => (hs h).elim, fun _ => ⟨1, -1, by decide, ?_⟩⟩
  unfold f53
  rw [decide_eq_true (by omega)]
  rfl
def badP (p : Nat) : Bool := [0, 9, 10, 32, 40, 41, 91, 93, 44, 59].contains p || decide (983040 ≤ p)
def okP (L : List Nat) : Bool := decide (1 ≤ L.length ∧ L.length ≤ 30) && L.all (fun p => !badP p)
def wordS (s : ByteArray) : Bool := decide (s.size ≤ 4000) && match ptsS s with
 | some L => okP L
 | none => false
theorem ix_bad : ∀ p : Nat, p < 128 → decide (Lib.indexByte (⟨#[32, 9, 10, 40, 41, 91, 93, 44, 59]⟩ : ByteArray).data.toList (IntKind.u8.wrap (p : Int)).toNat.toUInt8 ≥ 0) = [9, 10, 32, 40, 41, 91, 93, 44, 59].contains p := by decide +kernel
theorem castL_get {L : List Nat} {i : Nat} {x : Int} (h : (castL L)[i]? = some x) : ∃ p : Nat, x = (p : Int) ∧ p ∈ L := by
 unfold castL at h
 rw [List.getElem?_map] at h
 obtain ⟨p, h1, h2⟩ := Option.map_eq_some_iff.1 h
 exact ⟨p, h2.symm, List.mem_of_getElem? h1⟩
theorem castL_all (L : List Nat) : (castL L).all (fun x => !badP x.toNat) = L.all (fun p => !badP p) := by
 unfold castL
 rw [List.all_map]
 rfl
theorem castL_len (L : List Nat) : (castL L).length = L.length := by unfold castL; rw [List.length_map]
theorem f41_step (m : Nat) (k : Nat) (hk : k ≤ 4000) (p : Nat) (hp : p ≤ 1114111) : f41_r2 m (k : Int) (p : Int) (((p : Int) == 0) || decide ((p : Int) ≥ 983040)) = some (if badP p then Stp.ret false else Stp.nxt ((k : Int) + 1)) := by
 have hw : w64 ((k : Int) + 1) = (k : Int) + 1 := w64_id ⟨by omega, by omega⟩
 unfold f41_r2 f41_r1
 by_cases h1 : p = 0 ∨ 983040 ≤ p
 ·have hb : (((p : Int) == 0) || decide ((p : Int) ≥ 983040)) = true := by
   simp only [Bool.or_eq_true, beq_iff_eq, decide_eq_true_eq]; omega
  have hbad : badP p = true := by
   unfold badP
   rcases h1 with h | h
   ·subst h; rfl
   ·rw [decide_eq_true h, Bool.or_true]
  rw [hb, hbad]
  rfl
 ·have hb : (((p : Int) == 0) || decide ((p : Int) ≥ 983040)) = false := by
   simp only [Bool.or_eq_false_iff, beq_eq_false_iff_ne, decide_eq_false_iff_not, ne_eq]; omega
  rw [hb, cnd_false]
  by_cases h2 : p < 128
  ·rw [decide_eq_true (by omega : (p : Int) < 128), cnd_true]
   simp only [f54, bnd_some', ix_bad p h2]
   have hbad : badP p = [9, 10, 32, 40, 41, 91, 93, 44, 59].contains p := by
    unfold badP
    rw [decide_eq_false (by omega), Bool.or_false]
    have : (p == 0) = false := by simp; omega
    simp only [List.contains_cons, this, Bool.false_or]
   rw [hbad]
   cases [9, 10, 32, 40, 41, 91, 93, 44, 59].contains p
   ·rw [hw]; rfl
   ·rfl
  ·rw [decide_eq_false (by omega : ¬ (p : Int) < 128), cnd_false]
   have hbad : badP p = false := by
    unfold badP
    rw [decide_eq_false (by omega), Bool.or_false]
    simp only [List.contains_eq_any_beq, List.any_cons, List.any_nil, Bool.or_false, Bool.or_eq_false_iff, beq_eq_false_iff_ne, ne_eq]
    omega
   simp only [bnd_some', hbad, hw]
   rfl
theorem f41_loop (m : Nat) (L : List Nat) (f : S26) (hL : L.length ≤ 4000) (hp : ∀ p ∈ L, p ≤ 1114111) (hm : 4001 < m) :
  iter (fun (y : Int) => f41_B3 m (castL L, f) y) m 0 = if L.all (fun p => !badP p) then some (.inr (L.length : Int)) else some (.inl false) := by
 have e : iter (fun (y : Int) => f41_B3 m (castL L, f) y) m 0 = landed (fun (_ : Unit) (i : Int) => i) (castL L).length (scan (fun _ (_ : Unit) x => if !badP x.toNat then some (.inr ()) else some (.inl false)) 0 () (castL L)) := by
  refine iter_scan (castL L) (fun (y : Int) => f41_B3 m (castL L, f) y) (fun (_ : Unit) (i : Int) => i) (fun _ (_ : Unit) x => if !badP x.toNat then some (.inr ()) else some (.inl false)) (fun u k hi => ?_) m 0 () (by omega) (by rw [castL_len]; omega)
  rw [castL_len] at hi
  refine body_turn rfl fun x hx => ?_
  obtain ⟨p, rfl, hmem⟩ := castL_get hx
  rw [f41_step m k (by omega) p (hp p hmem), Int.toNat_natCast]
  cases badP p <;> rfl
 rw [e, scan_all, castL_all, castL_len]
 cases L.all (fun p => !badP p) <;> rfl
theorem ptsS_len {s : ByteArray} {L : List Nat} (h : ptsS s = some L) : L.length ≤ s.size ∧ s.size ≤ 4 * L.length ∧ ∀ p ∈ L, p ≤ 1114111 := by
 have := ptsB_len _ _ L (Nat.le_refl _) h
 rwa [bytN_len] at this
theorem f41_eq (m : Nat) (s : ByteArray) (hm : 4001 < m) : f41 m s = some (wordS s) := by
 obtain ⟨g1, g2⟩ := f53_eq m s hm
 unfold f41 wordS
 by_cases hs : s.size ≤ 4000
 ·cases hq : ptsS s with
  | some L =>
   have hl := ptsS_len hq
   rw [g1 L hs hq]
   simp only [bnd_some', f41_r5, f41_r4, castL_len, okP, beq_self_eq_true, Bool.true_and, Bool.not_true, Bool.false_or, decide_eq_true hs]
   by_cases hc : 1 ≤ L.length ∧ L.length ≤ 30
   ·have hb : (decide ((L.length : Int) < 1) || decide ((L.length : Int) > 30)) = false := by
     simp only [Bool.or_eq_false_iff, decide_eq_false_iff_not]; omega
    rw [hb, cnd_false, f41_loop m L _ (by omega) hl.2.2 hm, decide_eq_true hc]
    cases L.all (fun p => !badP p) <;> rfl
   ·have hb : (decide ((L.length : Int) < 1) || decide ((L.length : Int) > 30)) = true := by
     simp only [Bool.or_eq_true, decide_eq_true_eq]; omega
    rw [hb, decide_eq_false hc]
    rfl
  | none =>
   obtain ⟨c, j, hc, e⟩ := g2 (.inr hq)
   rw [e]
   have hb : (c == 0) = false := by simpa using hc
   simp only [bnd_some', hb, Bool.false_and, Bool.not_false, Bool.true_or, f41_r5, f41_r4, cnd_true, Bool.and_false]
 ·obtain ⟨c, j, hc, e⟩ := g2 (.inl hs)
  rw [e]
  have hb : (c == 0) = false := by simpa using hc
  simp only [bnd_some', hb, Bool.false_and, Bool.not_false, Bool.true_or, f41_r5, f41_r4, cnd_true, decide_eq_false hs]
def badL : List Int := [0, 9, 10, 32, 40, 41, 91, 93, 44, 59]
theorem badL_all (p : Nat) : badL.all (fun y => !((p : Int) == y)) = !([0, 9, 10, 32, 40, 41, 91, 93, 44, 59].contains p) := by
 rw [Bool.eq_iff_iff]
 simp only [badL, List.all_cons, List.all_nil, List.contains_eq_any_beq, List.any_cons, List.any_nil, Bool.and_eq_true, Bool.not_eq_true', Bool.or_eq_false_iff, beq_eq_false_iff_ne, ne_eq, and_true]
 omega
def partS (s : ByteArray) : Bool := decide (s = ⟨#[]⟩) || wordS s
def itemBad (n : Nat) (x : S46) : Int := if !(partS x.fBase && partS x.fForm) then 5 else if x.fTags.length > 4 then 2 else if !(x.fTags.all nameS) then 10 else if x.fNext < -1 ∨ (n : Int) ≤ x.fNext ∨ x.fWeight < 0 ∨ 1000000 < x.fWeight then 3 else 0
def firstC {α : Type} (c : α → Int) (xs : List α) : Int := orr (xs.map c)
def classBad (l : List S44) (i : Nat) (c : S44) : Int := if !nameS c.fName then 10 else if (l.take i).any (fun d => decide (d.fName = c.fName)) then 7 else if c.fItems.length > 100 then 2 else firstC (itemBad l.length) c.fItems
def lexFrom (l : List S44) : Nat → List S44 → S26
 | _, [] => ⟨0, 0⟩
 | i, c :: r => if classBad l i c ≠ 0 then ⟨classBad l i c, i⟩ else lexFrom l (i + 1) r
def lexF (l : List S44) : S26 := if l.length < 1 ∨ 40 < l.length then ⟨9, -1⟩ else lexFrom l 0 l
theorem scan_firstC {α R : Type} (c : α → Int) (k : Int → R) : ∀ (xs : List α) (i : Int), scan (fun _ (_ : Unit) (x : α) => if c x ≠ 0 then some (.inl (k (c x))) else some (.inr ())) i () xs = if firstC c xs ≠ 0 then some (.inl (k (firstC c xs))) else some (.inr ())
 | [], i => by simp [scan, firstC, orr]
 | x :: r, i => by
  by_cases h : c x = 0
  ·have e : firstC c (x :: r) = firstC c r := by simp [firstC, orr, h]
   rw [e]
   simp only [scan, h, ne_eq, not_true, if_false]
   exact scan_firstC c k r (i + 1)
  ·have e : firstC c (x :: r) = c x := by simp [firstC, orr, h]
   rw [e]
   simp only [scan, ne_eq, h, not_false_eq_true, if_true]
theorem firstC_zero {α : Type} {c : α → Int} {xs : List α} (h : firstC c xs = 0) : ∀ x ∈ xs, c x = 0 := by
 induction xs with
 | nil => intro x hx; cases hx
 | cons y r ih =>
  intro x hx
  by_cases hy : c y = 0
  ·have e : firstC c (y :: r) = firstC c r := by simp [firstC, orr, hy]
   rw [e] at h
   rcases List.mem_cons.1 hx with rfl | hx
   ·exact hy
   ·exact ih h x hx
  ·have e : firstC c (y :: r) = c y := by simp [firstC, orr, hy]
   rw [e] at h
   exact absurd h hy
theorem emp_eq (s : ByteArray) : (s.toList == (⟨#[]⟩ : ByteArray).toList) = decide (s = ⟨#[]⟩) := tl_eq _ _
theorem f27_tags (m : Nat) (x : S46) (hm : 31 < m) (hl : x.fTags.length ≤ 4) : iter (fun (y : Int) => f27_B2 m x y) m 0 = if x.fTags.all nameS then some (.inr (x.fTags.length : Int)) else some (.inl 10) := by
 have e : iter (fun (y : Int) => f27_B2 m x y) m 0 = landed (fun (_ : Unit) (i : Int) => i) x.fTags.length (scan (fun _ (_ : Unit) t => if nameS t then some (.inr ()) else some (.inl 10)) 0 () x.fTags) := by
  refine iter_scan x.fTags (fun (y : Int) => f27_B2 m x y) (fun (_ : Unit) (i : Int) => i) _ (fun u i hi => ?_) m 0 () (by omega) (by omega)
  unfold f27_B2
  refine body_turn rfl fun t ht => ?_
  have hw : w64 ((i : Int) + 1) = (i : Int) + 1 := w64_id ⟨by omega, by omega⟩
  rw [f40_eq m t hm, bnd_some']
  cases hn : nameS t with
  | true => simp [hw]
  | false => simp
 rw [e, scan_all nameS]
 cases x.fTags.all nameS <;> rfl
theorem f27_item (m : Nat) (a0 : S23) (i : Int) (x : S46) (hm : 4001 < m) (hn : a0.fClasses.length ≤ 1000) :
  (bnd (cnd (!(x.fBase.toList == (⟨#[]⟩ : ByteArray).toList)) (bnd (f41 m x.fBase) fun v256 => some (!v256)) (some false)) fun v190 => f27_r7 m a0 i x v190) = if itemBad a0.fClasses.length x ≠ 0 then some (.ret (itemBad a0.fClasses.length x)) else some (.nxt (w64 (i + 1))) := by
 have hp : ∀ s : ByteArray, cnd (!(s.toList == (⟨#[]⟩ : ByteArray).toList)) (bnd (f41 m s) fun v => some (!v)) (some false) = some (!partS s) := by
  intro s
  rw [emp_eq, f41_eq m s hm, bnd_some']
  unfold partS
  by_cases h : s = ⟨#[]⟩
  ·simp [h]
  ·simp [h]
 rw [hp, bnd_some']
 unfold f27_r7
 rw [hp]
 unfold itemBad
 cases hb : partS x.fBase with
 | false => simp [f27_r6]
 | true =>
  cases hf : partS x.fForm with
  | false => simp [f27_r6]
  | true =>
   simp only [Bool.not_true, cnd_false, bnd_some', f27_r6, Bool.and_self, Bool.false_eq_true, if_false]
   by_cases ht : x.fTags.length > 4
   ·rw [decide_eq_true (by omega), cnd_true, if_pos ht]; simp
   ·rw [decide_eq_false (by omega), cnd_false, if_neg ht, f27_tags m x (by omega) (by omega)]
    cases ha : x.fTags.all nameS with
    | false => simp
    | true =>
     simp only [if_true, brk_inr, f27_r5, f27_r4, f27_r3, Bool.not_true, Bool.false_eq_true, if_false]
     have hc : ((((decide (x.fNext < -1) || decide (x.fNext ≥ (a0.fClasses.length : Int))) || decide (x.fWeight < 0)) || decide (x.fWeight > 1000000)) = true) ↔ (x.fNext < -1 ∨ (a0.fClasses.length : Int) ≤ x.fNext ∨ x.fWeight < 0 ∨ 1000000 < x.fWeight) := by
      simp only [Bool.or_eq_true, decide_eq_true_eq, or_assoc, ge_iff_le, gt_iff_lt]
     by_cases h : x.fNext < -1 ∨ (a0.fClasses.length : Int) ≤ x.fNext ∨ x.fWeight < 0 ∨ 1000000 < x.fWeight
     ·rw [hc.2 h, cnd_true, if_pos h]; simp
     ·have h' : (((decide (x.fNext < -1) || decide (x.fNext ≥ (a0.fClasses.length : Int))) || decide (x.fWeight < 0)) || decide (x.fWeight > 1000000)) = false := by
       rw [← Bool.not_eq_true, hc]; exact h
      rw [h', cnd_false, if_neg h]; simp
theorem f27_eq (m : Nat) (a0 : S23) (hm : 4001 < m) (hn : a0.fClasses.length ≤ 40) (i : Nat) (c : S44) (hc : a0.fClasses[i]? = some c) : f27 m a0 (i : Int) = some (classBad a0.fClasses i c) := by
 have hi := lt_of_getElem? hc
 unfold f27 classBad
 rw [idx_get, hc, bnd_some', f40_eq m _ (by omega), bnd_some']
 cases hnm : nameS c.fName with
 | false => simp
 | true =>
  have hs : sub a0.fClasses 0 (i : Int) = some (a0.fClasses.take i) := by
   unfold sub
   rw [if_pos ⟨by omega, by omega, by omega⟩, Int.toNat_natCast]; simp
  have htl : (a0.fClasses.take i).length = i := by rw [List.length_take]; omega
  have e1 : iter (fun (y : Int) => f27_B1 m c (a0.fClasses.take i) y) m 0 = landed (fun (_ : Unit) (i : Int) => i) (a0.fClasses.take i).length (scan (fun _ (_ : Unit) (d : S44) => if !(decide (d.fName = c.fName)) then some (.inr ()) else some (.inl 7)) 0 () (a0.fClasses.take i)) := by
   refine iter_scan (a0.fClasses.take i) (fun (y : Int) => f27_B1 m c (a0.fClasses.take i) y) (fun (_ : Unit) (i : Int) => i) _ (fun u k hk => ?_) m 0 () (by omega) (by omega)
   unfold f27_B1
   refine body_turn rfl fun d hd => ?_
   have hw : w64 ((k : Int) + 1) = (k : Int) + 1 := w64_id ⟨by omega, by omega⟩
   rw [tl_eq]
   by_cases h : d.fName = c.fName
   ·simp [h]
   ·simp [h, hw]
  simp only [Bool.not_true, cnd_false, hs, bnd_some', Bool.false_eq_true, if_false]
  rw [e1, scan_all (fun d : S44 => !(decide (d.fName = c.fName)))]
  cases hex : (a0.fClasses.take i).any (fun d => decide (d.fName = c.fName)) with
  | true =>
   have : ((a0.fClasses.take i).all fun d => !(decide (d.fName = c.fName))) = false := by
    rw [← Bool.not_eq_true, List.all_eq_true]
    intro h
    obtain ⟨d, hd, he⟩ := List.any_eq_true.1 hex
    have := h d hd
    rw [he] at this; cases this
   rw [this]
   simp [landed]
  | false =>
   have : ((a0.fClasses.take i).all fun d => !(decide (d.fName = c.fName))) = true := by
    rw [List.all_eq_true]
    intro d hd
    have := List.any_eq_false.1 hex d hd
    simpa using this
   rw [this]
   simp only [if_true, landed, brk_inr, Bool.false_eq_true, if_false]
   by_cases hl : c.fItems.length > 100
   ·rw [decide_eq_true (by omega), cnd_true, if_pos hl]
   ·rw [decide_eq_false (by omega), cnd_false, if_neg hl]
    have e2 : iter (fun (y : Int) => f27_B8 m a0 c y) m 0 = landed (fun (_ : Unit) (i : Int) => i) c.fItems.length (scan (fun _ (_ : Unit) (x : S46) => if itemBad a0.fClasses.length x ≠ 0 then some (.inl (id (itemBad a0.fClasses.length x))) else some (.inr ())) 0 () c.fItems) := by
     refine iter_scan c.fItems (fun (y : Int) => f27_B8 m a0 c y) (fun (_ : Unit) (i : Int) => i) _ (fun u k hk => ?_) m 0 () (by omega) (by omega)
     unfold f27_B8
     refine body_turn rfl fun x hx => ?_
     have hw : w64 ((k : Int) + 1) = (k : Int) + 1 := w64_id ⟨by omega, by omega⟩
     rw [f27_item m a0 k x hm (by omega)]
     by_cases h : itemBad a0.fClasses.length x = 0
     ·simp [h, hw]
     ·simp [h]
    rw [e2, scan_firstC]
    by_cases h : firstC (itemBad a0.fClasses.length) c.fItems = 0
    ·simp [h, landed]
    ·simp [h, landed]
theorem scan_lex (l : List S44) : ∀ (xs : List S44) (i : Nat), scan (fun (i : Int) (_ : Unit) (c : S44) => if classBad l i.toNat c ≠ 0 then some (.inl (⟨classBad l i.toNat c, i⟩ : S26)) else some (.inr ())) (i : Int) () xs = if (lexFrom l i xs).fCode ≠ 0 then some (.inl (lexFrom l i xs)) else some (.inr ())
 | [], i => by simp [scan, lexFrom]
 | c :: r, i => by
  by_cases h : classBad l i c = 0
  ·simp only [scan, lexFrom, Int.toNat_natCast, h, ne_eq, not_true, if_false]
   have := scan_lex l r (i + 1)
   rw [show ((i + 1 : Nat) : Int) = (i : Int) + 1 by omega] at this
   exact this
  ·simp only [scan, lexFrom, Int.toNat_natCast, ne_eq, h, not_false_eq_true, if_true]
theorem lexFrom_zero (l : List S44) : ∀ (xs : List S44) (i : Nat), (lexFrom l i xs).fCode = 0 → lexFrom l i xs = ⟨0, 0⟩ ∧ ∀ j c, xs[j]? = some c → classBad l (i + j) c = 0
 | [], i, _ => ⟨rfl, fun j c h => by simp at h⟩
 | c :: r, i, h => by
  by_cases hb : classBad l i c = 0
  ·simp only [lexFrom, hb, ne_eq, not_true, if_false] at h ⊢
   obtain ⟨h1, h2⟩ := lexFrom_zero l r (i + 1) h
   refine ⟨h1, fun j c' hj => ?_⟩
   cases j with
   | zero => simp at hj; subst hj; exact hb
   | succ j =>
    have := h2 j c' (by simpa using hj)
    rw [show i + (j + 1) = i + 1 + j by omega]; exact this
  ·simp only [lexFrom, ne_eq, hb, not_false_eq_true, if_true] at h
theorem f11_eq (m : Nat) (a0 : S23) (hm : 4001 < m) : f11 m a0 = some (lexF a0.fClasses) := by
 unfold f11 f11_r2 lexF
 by_cases h : a0.fClasses.length < 1 ∨ 40 < a0.fClasses.length
 ·have : (decide ((a0.fClasses.length : Int) < 1) || decide ((a0.fClasses.length : Int) > 40)) = true := by
   simp only [Bool.or_eq_true, decide_eq_true_eq]; omega
  rw [this, cnd_true, if_pos h]; rfl
 ·have : (decide ((a0.fClasses.length : Int) < 1) || decide ((a0.fClasses.length : Int) > 40)) = false := by
   rw [← Bool.not_eq_true]; simp only [Bool.or_eq_true, decide_eq_true_eq]; omega
  rw [this, cnd_false, if_neg h]
  have e : iter (fun (y : Int) => f11_B1 m a0 y) m 0 = landed (fun (_ : Unit) (i : Int) => i) a0.fClasses.length (scan (fun (i : Int) (_ : Unit) (c : S44) => if classBad a0.fClasses i.toNat c ≠ 0 then some (.inl (⟨classBad a0.fClasses i.toNat c, i⟩ : S26)) else some (.inr ())) 0 () a0.fClasses) := by
   refine iter_scan a0.fClasses (fun (y : Int) => f11_B1 m a0 y) (fun (_ : Unit) (i : Int) => i) _ (fun u k hk => ?_) m 0 () (by omega) (by omega)
   unfold f11_B1
   refine body_turn' rfl fun c hc => ?_
   have hw : w64 ((k : Int) + 1) = (k : Int) + 1 := w64_id ⟨by omega, by omega⟩
   rw [f27_eq m a0 hm (by omega) k c hc, bnd_some', Int.toNat_natCast]
   by_cases hb : classBad a0.fClasses k c = 0
   ·simp [hb, hw]
   ·have : (classBad a0.fClasses k c != 0) = true := by simpa using hb
    simp only [this, cnd_true, ne_eq, hb, not_false_eq_true, if_true]
    rfl
  rw [e]
  have hsc := scan_lex a0.fClasses a0.fClasses 0
  rw [show ((0 : Nat) : Int) = 0 from rfl] at hsc
  rw [hsc]
  by_cases hz : (lexFrom a0.fClasses 0 a0.fClasses).fCode = 0
  ·rw [if_neg (by simp [hz]), (lexFrom_zero _ _ _ hz).1]; rfl
  ·rw [if_pos hz]; rfl
structure OkL (l : List S44) : Prop where
 len : 1 ≤ l.length ∧ l.length ≤ 40
 items : ∀ c ∈ l, c.fItems.length ≤ 100
 item : ∀ c ∈ l, ∀ x ∈ c.fItems, itemBad l.length x = 0
theorem lexF_ok {l : List S44} (h : (lexF l).fCode = 0) : OkL l ∧ lexF l = ⟨0, 0⟩ := by
 unfold lexF at h ⊢
 split at h
 ·simp at h
 ·rename_i hl
  rw [if_neg hl]
  obtain ⟨h1, h2⟩ := lexFrom_zero l l 0 h
  refine ⟨⟨by omega, fun c hc => ?_, fun c hc x hx => ?_⟩, h1⟩
  ·obtain ⟨j, hj⟩ := List.getElem?_of_mem hc
   have hb := h2 j c hj
   unfold classBad at hb
   split at hb
   ·omega
   ·split at hb
    ·omega
    ·split at hb
     ·omega
     ·omega
  ·obtain ⟨j, hj⟩ := List.getElem?_of_mem hc
   have hb := h2 j c hj
   unfold classBad at hb
   split at hb
   ·omega
   ·split at hb
    ·omega
    ·split at hb
     ·omega
     ·exact firstC_zero hb x hx
end Go.Abs
