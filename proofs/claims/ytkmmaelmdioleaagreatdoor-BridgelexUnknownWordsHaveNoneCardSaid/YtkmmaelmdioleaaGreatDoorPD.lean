import Derived.Test.YtkmmaelmdioleaaGreatDoorWF2
import Derived.Test.YtkmmaelmdioleaaGreatDoorAbsH
import Derived.Lib.DecodeN
import Derived.Lib.RuneCount
namespace Go.Abs
open Go.Sort Go.Proofs
set_option linter.unusedVariables false
set_option linter.unusedSimpArgs false
set_option linter.unnecessarySimpa false
set_option maxRecDepth 100000
def letB (c : Int) : Bool := decide (c ≥ 97) && decide (c ≤ 122)
def nameB (c : Int) : Bool := letB c || (decide (c ≥ 48) && decide (c ≤ 57)) || c == 95 || c == 45
def nameS (s : ByteArray) : Bool := decide (1 ≤ s.size ∧ s.size ≤ 30) && (allP (fun i c => letB c || (i != 0 && nameB c)) 0 (byt s))
theorem f33_eq (m : Nat) (s : ByteArray) (hm : 31 < m) : f33 m s = some (nameS s) := by
 unfold f33 f33_r4 nameS
 by_cases h : 1 ≤ s.size ∧ s.size ≤ 30
 ·have hb : ((decide ((s.size : Int) < 1)) || (decide ((s.size : Int) > 30))) = false := by
   simp only [Bool.or_eq_false_iff, decide_eq_false_iff_not]
   omega
  rw [hb, decide_eq_true h, cnd_false, Bool.true_and]
  have e : iter (fun (y : Int) => f33_B3 m s y) m 0 = landed (fun (_ : Unit) (i : Int) => i) (byt s).length (scan (fun i (_ : Unit) c => if letB c || (i != 0 && nameB c) then some (.inr ()) else some (.inl false)) 0 () (byt s)) := by
   refine iter_scan (byt s) (fun (y : Int) => f33_B3 m s y) (fun (_ : Unit) (i : Int) => i) (fun i (_ : Unit) c => if letB c || (i != 0 && nameB c) then some (.inr ()) else some (.inl false)) (fun u k hi => ?_) m 0 () (by omega) (by rw [byt_len]; omega)
   have hl := byt_len s
   unfold f33_B3
   rw [← hl]
   refine body_turn' rfl fun c hc => ?_
   have hw : w64 ((k : Int) + 1) = (k : Int) + 1 := w64_id ⟨by omega, by omega⟩
   rw [sidx_get, hc]
   simp only [bnd_some', f33_r2, f33_r1, hw]
   have key : ((!((decide (c ≥ 97)) && (decide (c ≤ 122)))) && ((((k : Int) == 0) || (((c != 95) && (((c != 45) && (((decide (c < 48)) || (decide (c > 57)))))))))) ) = !(letB c || (((k : Int) != 0) && nameB c)) := by
    rw [Bool.eq_iff_iff]
    simp only [nameB, letB, Bool.and_eq_true, Bool.or_eq_true, Bool.not_eq_true', Bool.or_eq_false_iff, Bool.and_eq_false_iff, decide_eq_true_eq, decide_eq_false_iff_not, bne_iff_ne, beq_iff_eq, bne_eq_false_iff_eq, beq_eq_false_iff_ne, ne_eq]
    omega
   rw [key]
   by_cases q : (letB c || (((k : Int) != 0) && nameB c)) = true
   ·rw [q]; rfl
   ·have q : (letB c || (((k : Int) != 0) && nameB c)) = false := by simpa using q
    rw [q]; rfl
  rw [e, scan_allP]
  cases allP (fun i c => letB c || (i != 0 && nameB c)) 0 (byt s) <;> rfl
 ·have hb : ((decide ((s.size : Int) < 1)) || (decide ((s.size : Int) > 30))) = true := by
   simp only [Bool.or_eq_true, decide_eq_true_eq]
   omega
  rw [hb, decide_eq_false h]
  rfl
def tagsS (l : List ByteArray) : Int := if l.length > 4 then 2 else if l.all nameS then 0 else 10
def bytN (s : ByteArray) : List Nat := s.data.toList.map fun b => b.toNat
theorem bytN_len (s : ByteArray) : (bytN s).length = s.size := by unfold bytN; rw [List.length_map, Array.length_toList]; rfl
theorem byt_bytN (s : ByteArray) : byt s = (bytN s).map fun n : Nat => (n : Int) := by unfold byt bytN; rw [List.map_map]; rfl
theorem bytN_lt (s : ByteArray) : ∀ x ∈ bytN s, x < 256 := by
 intro x hx
 unfold bytN at hx
 obtain ⟨b, _, rfl⟩ := List.mem_map.1 hx
 exact b.toNat_lt
def oneN : List Nat → Option (Nat × Nat)
 | [] => none
 | b0 :: r =>
  if b0 < 128 then some (b0, 1)
  else if b0 < 194 then none
  else if b0 < 224 then (match r with
   | b1 :: _ => if 128 ≤ b1 ∧ b1 ≤ 191 then some ((b0 - 192) * 64 + (b1 - 128), 2) else none
   | _ => none)
  else if b0 < 240 then (match r with
   | b1 :: b2 :: _ => if (128 ≤ b1 ∧ b1 ≤ 191) ∧ (128 ≤ b2 ∧ b2 ≤ 191) ∧ 2048 ≤ (b0 - 224) * 4096 + (b1 - 128) * 64 + (b2 - 128) ∧ ((b0 - 224) * 4096 + (b1 - 128) * 64 + (b2 - 128) < 55296 ∨ 57344 ≤ (b0 - 224) * 4096 + (b1 - 128) * 64 + (b2 - 128)) then some ((b0 - 224) * 4096 + (b1 - 128) * 64 + (b2 - 128), 3) else none
   | _ => none)
  else if b0 < 245 then (match r with
   | b1 :: b2 :: b3 :: _ => if (128 ≤ b1 ∧ b1 ≤ 191) ∧ (128 ≤ b2 ∧ b2 ≤ 191) ∧ (128 ≤ b3 ∧ b3 ≤ 191) ∧ 65536 ≤ (b0 - 240) * 262144 + (b1 - 128) * 4096 + (b2 - 128) * 64 + (b3 - 128) ∧ (b0 - 240) * 262144 + (b1 - 128) * 4096 + (b2 - 128) * 64 + (b3 - 128) ≤ 1114111 then some ((b0 - 240) * 262144 + (b1 - 128) * 4096 + (b2 - 128) * 64 + (b3 - 128), 4) else none
   | _ => none)
  else none
def orBad : Option (Nat × Nat) → Nat × Nat
 | some x => x
 | none => (65533, 1)
theorem get_byt (s : ByteArray) (i k : Nat) : (s.get! (i + k)).toNat = (((bytN s).drop i)[k]?).getD 0 := by
 rw [List.getElem?_drop]
 unfold bytN
 rw [List.getElem?_map, Array.getElem?_toList]
 cases hq : s.data[i + k]? with
 | none =>
  have : s.get! (i + k) = 0 := by
   unfold ByteArray.get!
   simp only [getElem!_def, hq]
   rfl
  rw [this]; rfl
 | some b =>
  have : s.get! (i + k) = b := by
   unfold ByteArray.get!
   simp [getElem!_def, hq]
  rw [this]; rfl
def oneP (n b0 b1 b2 b3 : Nat) : Option (Nat × Nat) :=
 if b0 < 128 then some (b0, 1)
 else if b0 < 194 then none
 else if b0 < 224 then (if 1 < n ∧ 128 ≤ b1 ∧ b1 ≤ 191 then some ((b0 - 192) * 64 + (b1 - 128), 2) else none)
 else if b0 < 240 then (if 2 < n ∧ (128 ≤ b1 ∧ b1 ≤ 191) ∧ (128 ≤ b2 ∧ b2 ≤ 191) ∧ 2048 ≤ (b0 - 224) * 4096 + (b1 - 128) * 64 + (b2 - 128) ∧ ((b0 - 224) * 4096 + (b1 - 128) * 64 + (b2 - 128) < 55296 ∨ 57344 ≤ (b0 - 224) * 4096 + (b1 - 128) * 64 + (b2 - 128)) then some ((b0 - 224) * 4096 + (b1 - 128) * 64 + (b2 - 128), 3) else none)
 else if b0 < 245 then (if 3 < n ∧ (128 ≤ b1 ∧ b1 ≤ 191) ∧ (128 ≤ b2 ∧ b2 ≤ 191) ∧ (128 ≤ b3 ∧ b3 ≤ 191) ∧ 65536 ≤ (b0 - 240) * 262144 + (b1 - 128) * 4096 + (b2 - 128) * 64 + (b3 - 128) ∧ (b0 - 240) * 262144 + (b1 - 128) * 4096 + (b2 - 128) * 64 + (b3 - 128) ≤ 1114111 then some ((b0 - 240) * 262144 + (b1 - 128) * 4096 + (b2 - 128) * 64 + (b3 - 128), 4) else none)
 else none
set_option maxHeartbeats 4000000 in
theorem decodeN_P (n b0 b1 b2 b3 : Nat) (h0 : b0 < 256) (h1 : b1 < 256) (h2 : b2 < 256) (h3 : b3 < 256) : Lib.decodeN n b0 b1 b2 b3 = orBad (oneP n b0 b1 b2 b3) := by
 unfold Lib.decodeN
 by_cases k0 : b0 < 128
 ·have : oneP n b0 b1 b2 b3 = some (b0, 1) := by unfold oneP; rw [if_pos k0]
  rw [if_pos k0, this]; rfl
 rw [if_neg k0]
 by_cases k1 : b0 < 194
 ·have : oneP n b0 b1 b2 b3 = none := by unfold oneP; rw [if_neg k0, if_pos k1]
  rw [this]
  split
  ·rename_i hc; rw [if_neg (by omega)]; rfl
  ·rw [if_neg (by omega), if_neg (by omega)]; rfl
 by_cases k2 : b0 < 224
 ·by_cases c : 1 < n ∧ 128 ≤ b1 ∧ b1 ≤ 191
  ·have : oneP n b0 b1 b2 b3 = some ((b0 - 192) * 64 + (b1 - 128), 2) := by unfold oneP; rw [if_neg k0, if_neg k1, if_pos k2, if_pos c]
   rw [this, if_pos (by omega), if_pos (by omega)]
   have e : b0 % 32 * 64 + b1 % 64 = (b0 - 192) * 64 + (b1 - 128) := by omega
   rw [e]; rfl
  ·have : oneP n b0 b1 b2 b3 = none := by unfold oneP; rw [if_neg k0, if_neg k1, if_pos k2, if_neg c]
   rw [this, if_neg (by omega), if_neg (by omega), if_neg (by omega)]; rfl
 by_cases k3 : b0 < 240
 ·rw [if_neg (by omega)]
  by_cases c : 2 < n ∧ (128 ≤ b1 ∧ b1 ≤ 191) ∧ (128 ≤ b2 ∧ b2 ≤ 191)
  ·have e : b0 % 16 * 4096 + b1 % 64 * 64 + b2 % 64 = (b0 - 224) * 4096 + (b1 - 128) * 64 + (b2 - 128) := by omega
   rw [if_pos (by omega), e]
   by_cases v : 2048 ≤ (b0 - 224) * 4096 + (b1 - 128) * 64 + (b2 - 128) ∧ ((b0 - 224) * 4096 + (b1 - 128) * 64 + (b2 - 128) < 55296 ∨ 57344 ≤ (b0 - 224) * 4096 + (b1 - 128) * 64 + (b2 - 128))
   ·have : oneP n b0 b1 b2 b3 = some ((b0 - 224) * 4096 + (b1 - 128) * 64 + (b2 - 128), 3) := by unfold oneP; rw [if_neg k0, if_neg k1, if_neg k2, if_pos k3, if_pos ⟨c.1, c.2.1, c.2.2, v⟩]
    rw [this, if_pos (by omega)]; rfl
   ·have : oneP n b0 b1 b2 b3 = none := by unfold oneP; rw [if_neg k0, if_neg k1, if_neg k2, if_pos k3, if_neg (fun h => v h.2.2.2)]
    rw [this, if_neg (by omega)]; rfl
  ·have : oneP n b0 b1 b2 b3 = none := by unfold oneP; rw [if_neg k0, if_neg k1, if_neg k2, if_pos k3, if_neg (fun h => c ⟨h.1, h.2.1, h.2.2.1⟩)]
   rw [this, if_neg (by omega), if_neg (by omega)]; rfl
 rw [if_neg (by omega), if_neg (by omega)]
 by_cases k4 : b0 < 245
 ·by_cases c : 3 < n ∧ (128 ≤ b1 ∧ b1 ≤ 191) ∧ (128 ≤ b2 ∧ b2 ≤ 191) ∧ (128 ≤ b3 ∧ b3 ≤ 191)
  ·have e : b0 % 8 * 262144 + b1 % 64 * 4096 + b2 % 64 * 64 + b3 % 64 = (b0 - 240) * 262144 + (b1 - 128) * 4096 + (b2 - 128) * 64 + (b3 - 128) := by omega
   rw [if_pos (by omega), e]
   by_cases v : 65536 ≤ (b0 - 240) * 262144 + (b1 - 128) * 4096 + (b2 - 128) * 64 + (b3 - 128) ∧ (b0 - 240) * 262144 + (b1 - 128) * 4096 + (b2 - 128) * 64 + (b3 - 128) ≤ 1114111
   ·have : oneP n b0 b1 b2 b3 = some ((b0 - 240) * 262144 + (b1 - 128) * 4096 + (b2 - 128) * 64 + (b3 - 128), 4) := by unfold oneP; rw [if_neg k0, if_neg k1, if_neg k2, if_neg k3, if_pos k4, if_pos ⟨c.1, c.2.1, c.2.2.1, c.2.2.2, v⟩]
    rw [this, if_pos (by omega)]; rfl
   ·have : oneP n b0 b1 b2 b3 = none := by unfold oneP; rw [if_neg k0, if_neg k1, if_neg k2, if_neg k3, if_pos k4, if_neg (fun h => v h.2.2.2.2)]
    rw [this, if_neg (by omega)]; rfl
  ·have : oneP n b0 b1 b2 b3 = none := by unfold oneP; rw [if_neg k0, if_neg k1, if_neg k2, if_neg k3, if_pos k4, if_neg (fun h => c ⟨h.1, h.2.1, h.2.2.1, h.2.2.2.1⟩)]
   rw [this, if_neg (by omega)]; rfl
 ·have : oneP n b0 b1 b2 b3 = none := by unfold oneP; rw [if_neg k0, if_neg k1, if_neg k2, if_neg k3, if_neg k4]
  rw [this]
  split
  ·rw [if_neg (by omega)]; rfl
  ·rfl
theorem oneN_P : ∀ (l : List Nat), l ≠ [] → oneN l = oneP l.length ((l[0]?).getD 0) ((l[1]?).getD 0) ((l[2]?).getD 0) ((l[3]?).getD 0)
 | [], h => (h rfl).elim
 | [b0], _ => by simp [oneN, oneP]
 | [b0, b1], _ => by simp [oneN, oneP]
 | [b0, b1, b2], _ => by simp [oneN, oneP]
 | b0 :: b1 :: b2 :: b3 :: r, _ => by simp [oneN, oneP]
theorem decodeN_one (l : List Nat) (hne : l ≠ []) (hl : ∀ x ∈ l, x < 256) : Lib.decodeN l.length ((l[0]?).getD 0) ((l[1]?).getD 0) ((l[2]?).getD 0) ((l[3]?).getD 0) = orBad (oneN l) := by
 have hk : ∀ k : Nat, (l[k]?).getD 0 < 256 := by
  intro k
  cases hq : l[k]? with
  | none => decide
  | some x => exact hl x (List.mem_of_getElem? hq)
 rw [oneN_P l hne, decodeN_P _ _ _ _ _ (hk 0) (hk 1) (hk 2) (hk 3)]
theorem decode_one (s : ByteArray) (i : Nat) (hi : i < s.size) : Utf8.decode s i = orBad (oneN ((bytN s).drop i)) := by
 rw [Lib.decode_at]
 have hlen : ((bytN s).drop i).length = s.size - i := by rw [List.length_drop, bytN_len]
 have e0 := get_byt s i 0
 have e1 := get_byt s i 1
 have e2 := get_byt s i 2
 have e3 := get_byt s i 3
 rw [Nat.add_zero] at e0
 rw [e0, e1, e2, e3, ← hlen]
 refine decodeN_one _ (fun h => ?_) (fun x hx => bytN_lt s x (List.mem_of_mem_drop hx))
 have h2 := congrArg List.length h
 rw [hlen] at h2
 simp only [List.length_nil] at h2
 omega
inductive One : List Nat → Nat → Nat → Prop
 | w1 (b0 : Nat) (r : List Nat) (h : b0 < 128) : One (b0 :: r) b0 1
 | w2 (b0 b1 : Nat) (r : List Nat) (h : 194 ≤ b0 ∧ b0 < 224) (h1 : 128 ≤ b1 ∧ b1 ≤ 191) : One (b0 :: b1 :: r) ((b0 - 192) * 64 + (b1 - 128)) 2
 | w3 (b0 b1 b2 : Nat) (r : List Nat) (h : 224 ≤ b0 ∧ b0 < 240) (h1 : 128 ≤ b1 ∧ b1 ≤ 191) (h2 : 128 ≤ b2 ∧ b2 ≤ 191)
   (h3 : 2048 ≤ (b0 - 224) * 4096 + (b1 - 128) * 64 + (b2 - 128) ∧ ((b0 - 224) * 4096 + (b1 - 128) * 64 + (b2 - 128) < 55296 ∨ 57344 ≤ (b0 - 224) * 4096 + (b1 - 128) * 64 + (b2 - 128))) :
   One (b0 :: b1 :: b2 :: r) ((b0 - 224) * 4096 + (b1 - 128) * 64 + (b2 - 128)) 3
 | w4 (b0 b1 b2 b3 : Nat) (r : List Nat) (h : 240 ≤ b0 ∧ b0 < 245) (h1 : 128 ≤ b1 ∧ b1 ≤ 191) (h2 : 128 ≤ b2 ∧ b2 ≤ 191) (h3 : 128 ≤ b3 ∧ b3 ≤ 191)
   (h4 : 65536 ≤ (b0 - 240) * 262144 + (b1 - 128) * 4096 + (b2 - 128) * 64 + (b3 - 128) ∧ (b0 - 240) * 262144 + (b1 - 128) * 4096 + (b2 - 128) * 64 + (b3 - 128) ≤ 1114111) :
   One (b0 :: b1 :: b2 :: b3 :: r) ((b0 - 240) * 262144 + (b1 - 128) * 4096 + (b2 - 128) * 64 + (b3 - 128)) 4
theorem oneN_One {l : List Nat} {p w : Nat} (h : oneN l = some (p, w)) : One l p w := by
 unfold oneN at h
 split at h
 ·cases h
 ·rename_i b0 r
  split at h
  ·cases h; exact .w1 _ _ (by assumption)
  ·split at h
   ·cases h
   ·split at h
    ·split at h
     ·split at h
      ·rename_i hc; simp only [Option.some.injEq, Prod.mk.injEq] at h; obtain ⟨rfl, rfl⟩ := h; exact .w2 _ _ _ ⟨by omega, by omega⟩ hc
      ·cases h
     ·cases h
    ·split at h
     ·split at h
      ·split at h
       ·rename_i hc; simp only [Option.some.injEq, Prod.mk.injEq] at h; obtain ⟨rfl, rfl⟩ := h; exact .w3 _ _ _ _ ⟨by omega, by omega⟩ hc.1 hc.2.1 hc.2.2
       ·cases h
      ·cases h
     ·split at h
      ·split at h
       ·split at h
        ·rename_i hc; simp only [Option.some.injEq, Prod.mk.injEq] at h; obtain ⟨rfl, rfl⟩ := h; exact .w4 _ _ _ _ _ ⟨by omega, by omega⟩ hc.1 hc.2.1 hc.2.2.1 hc.2.2.2
        ·cases h
       ·cases h
      ·cases h
theorem One.toN {l : List Nat} {p w : Nat} (h : One l p w) : oneN l = some (p, w) := by
 cases h with
 | w1 b0 r h => simp only [oneN]; rw [if_pos h]
 | w2 b0 b1 r h h1 => simp only [oneN]; rw [if_neg (by omega), if_neg (by omega), if_pos h.2, if_pos h1]
 | w3 b0 b1 b2 r h h1 h2 h3 => simp only [oneN]; rw [if_neg (by omega), if_neg (by omega), if_neg (by omega), if_pos h.2, if_pos ⟨h1, h2, h3⟩]
 | w4 b0 b1 b2 b3 r h h1 h2 h3 h4 => simp only [oneN]; rw [if_neg (by omega), if_neg (by omega), if_neg (by omega), if_neg (by omega), if_pos h.2, if_pos ⟨h1, h2, h3, h4⟩]
theorem One.app {a b : List Nat} {p w : Nat} (h : One a p w) : One (a ++ b) p w := by
 cases h with
 | w1 b0 r h => exact .w1 _ _ h
 | w2 b0 b1 r h h1 => exact .w2 _ _ _ h h1
 | w3 b0 b1 b2 r h h1 h2 h3 => exact .w3 _ _ _ _ h h1 h2 h3
 | w4 b0 b1 b2 b3 r h h1 h2 h3 h4 => exact .w4 _ _ _ _ _ h h1 h2 h3 h4
theorem One.cut {a b : List Nat} {p w : Nat} (h : One (a ++ b) p w) (hw : w ≤ a.length) : One a p w := by
 generalize hl : a ++ b = l at h
 cases h with
 | w1 b0 r h =>
  match a, hl, hw with
  | x :: a, hl, _ => simp only [List.cons_append, List.cons.injEq] at hl; rw [hl.1]; exact .w1 _ _ h
 | w2 b0 b1 r h h1 =>
  match a, hl, hw with
  | [x], hl, hw => simp at hw
  | x :: y :: a, hl, _ => simp only [List.cons_append, List.cons.injEq] at hl; rw [hl.1, hl.2.1]; exact .w2 _ _ _ h h1
 | w3 b0 b1 b2 r h h1 h2 h3 =>
  match a, hl, hw with
  | [x], hl, hw => simp at hw
  | [x, y], hl, hw => simp at hw
  | x :: y :: z :: a, hl, _ => simp only [List.cons_append, List.cons.injEq] at hl; rw [hl.1, hl.2.1, hl.2.2.1]; exact .w3 _ _ _ _ h h1 h2 h3
 | w4 b0 b1 b2 b3 r h h1 h2 h3 h4 =>
  match a, hl, hw with
  | [x], hl, hw => simp at hw
  | [x, y], hl, hw => simp at hw
  | [x, y, z], hl, hw => simp at hw
  | x :: y :: z :: u :: a, hl, _ => simp only [List.cons_append, List.cons.injEq] at hl; rw [hl.1, hl.2.1, hl.2.2.1, hl.2.2.2.1]; exact .w4 _ _ _ _ _ h h1 h2 h3 h4
theorem byt_get (s : ByteArray) (i k : Nat) : sidx s ((i + k : Nat) : Int) = (((bytN s).drop i)[k]?).map fun n : Nat => (n : Int) := by
 rw [sidx_get, byt_bytN, List.getElem?_map, List.getElem?_drop]
theorem oneN_w {l : List Nat} {p w : Nat} (h : oneN l = some (p, w)) : 1 ≤ w ∧ w ≤ 4 ∧ w ≤ l.length ∧ p ≤ 1114111 ∧ (w = 1 → p < 128) ∧ (w = 2 → 128 ≤ p ∧ p < 2048) ∧ (w = 3 → 2048 ≤ p ∧ p < 65536) ∧ (w = 4 → 65536 ≤ p) := by
 cases oneN_One h with
 | w1 b0 r h => simp only [List.length_cons]; omega
 | w2 b0 b1 r h h1 => simp only [List.length_cons]; omega
 | w3 b0 b1 b2 r h h1 h2 h3 => simp only [List.length_cons]; omega
 | w4 b0 b1 b2 b3 r h h1 h2 h3 h4 => simp only [List.length_cons]; omega
def conts : Nat → List Nat → Nat → Option Nat
 | v, _, 0 => some v
 | v, b :: l, d + 1 => if 128 ≤ b ∧ b ≤ 191 then conts (v * 64 + (b - 128)) l d else none
 | v, [], d + 1 => none
def BB : Nat → Nat
 | 3 => 100
 | 2 => 6500
 | 1 => 420000
 | _ => 27000000
theorem BB_step (d : Nat) (hd : d + 1 ≤ 3) : BB (d + 1) * 64 + 63 ≤ BB d := by
 have : d = 0 ∨ d = 1 ∨ d = 2 := by omega
 rcases this with rfl | rfl | rfl <;> decide
theorem BB_le (d : Nat) : BB d ≤ 27000000 := by
 match d with
 | 0 => decide
 | 1 => decide
 | 2 => decide
 | 3 => decide
 | d + 4 => exact Nat.le_refl _
def fin (n : Nat) : Option Nat → Int
 | some r => if (r < 55296 ∨ (57344 ≤ r ∧ r ≤ 1114111)) ∧ (if r < 128 then 1 else if r < 2048 then 2 else if r < 65536 then 3 else 4) = n then (r : Int) else -1
 | none => -1
set_option maxRecDepth 100000 in
def oneS (l : List Nat) : Int := match oneN l with
 | some (p, _) => (p : Int)
 | none => -1
theorem lead4 (b0 : Nat) (h : 240 ≤ b0 ∧ b0 < 256) : ∀ rest : List Nat, (if 3 ≤ rest.length then fin 4 (conts (b0 - 240) rest 3) else -1) = oneS (b0 :: rest)
 | [] => by
  have : oneN [b0] = none := by simp only [oneN]; rw [if_neg (by omega), if_neg (by omega), if_neg (by omega), if_neg (by omega)]; split <;> rfl
  unfold oneS; rw [this]; rfl
 | [x] => by
  have : oneN [b0, x] = none := by simp only [oneN]; rw [if_neg (by omega), if_neg (by omega), if_neg (by omega), if_neg (by omega)]; split <;> rfl
  unfold oneS; rw [this]; rfl
 | [x, y] => by
  have : oneN [b0, x, y] = none := by simp only [oneN]; rw [if_neg (by omega), if_neg (by omega), if_neg (by omega), if_neg (by omega)]; split <;> rfl
  unfold oneS; rw [this]; rfl
 | x :: y :: z :: r => by
  rw [if_pos (by simp only [List.length_cons]; omega)]
  have e : oneN (b0 :: x :: y :: z :: r) = if b0 < 245 then (if (128 ≤ x ∧ x ≤ 191) ∧ (128 ≤ y ∧ y ≤ 191) ∧ (128 ≤ z ∧ z ≤ 191) ∧ 65536 ≤ (b0 - 240) * 262144 + (x - 128) * 4096 + (y - 128) * 64 + (z - 128) ∧ (b0 - 240) * 262144 + (x - 128) * 4096 + (y - 128) * 64 + (z - 128) ≤ 1114111 then some ((b0 - 240) * 262144 + (x - 128) * 4096 + (y - 128) * 64 + (z - 128), 4) else none) else none := by
   simp only [oneN]; rw [if_neg (by omega), if_neg (by omega), if_neg (by omega), if_neg (by omega)]
  have e2 : conts (b0 - 240) (x :: y :: z :: r) 3 = if (128 ≤ x ∧ x ≤ 191) ∧ (128 ≤ y ∧ y ≤ 191) ∧ (128 ≤ z ∧ z ≤ 191) then some ((((b0 - 240) * 64 + (x - 128)) * 64 + (y - 128)) * 64 + (z - 128)) else none := by
   simp only [conts]
   by_cases h1 : 128 ≤ x ∧ x ≤ 191
   ·by_cases h2 : 128 ≤ y ∧ y ≤ 191
    ·by_cases h3 : 128 ≤ z ∧ z ≤ 191
     ·rw [if_pos h1, if_pos h2, if_pos h3, if_pos ⟨h1, h2, h3⟩]
     ·rw [if_pos h1, if_pos h2, if_neg h3, if_neg (fun h => h3 h.2.2)]
    ·rw [if_pos h1, if_neg h2, if_neg (fun h => h2 h.2.1)]
   ·rw [if_neg h1, if_neg (fun h => h1 h.1)]
  unfold oneS
  rw [e, e2]
  by_cases hc : (128 ≤ x ∧ x ≤ 191) ∧ (128 ≤ y ∧ y ≤ 191) ∧ (128 ≤ z ∧ z ≤ 191)
  ·rw [if_pos hc]
   have e3 : (((b0 - 240) * 64 + (x - 128)) * 64 + (y - 128)) * 64 + (z - 128) = (b0 - 240) * 262144 + (x - 128) * 4096 + (y - 128) * 64 + (z - 128) := by omega
   rw [e3]
   by_cases hr : 65536 ≤ (b0 - 240) * 262144 + (x - 128) * 4096 + (y - 128) * 64 + (z - 128) ∧ (b0 - 240) * 262144 + (x - 128) * 4096 + (y - 128) * 64 + (z - 128) ≤ 1114111
   ·rw [if_pos (by omega), if_pos ⟨hc.1, hc.2.1, hc.2.2, hr⟩]
    simp only [fin]
    rw [if_neg (by omega : ¬ (b0 - 240) * 262144 + (x - 128) * 4096 + (y - 128) * 64 + (z - 128) < 128), if_neg (by omega : ¬ (b0 - 240) * 262144 + (x - 128) * 4096 + (y - 128) * 64 + (z - 128) < 2048), if_neg (by omega : ¬ (b0 - 240) * 262144 + (x - 128) * 4096 + (y - 128) * 64 + (z - 128) < 65536), if_pos ⟨by omega, rfl⟩]
   ·have hn : (if b0 < 245 then (if (128 ≤ x ∧ x ≤ 191) ∧ (128 ≤ y ∧ y ≤ 191) ∧ (128 ≤ z ∧ z ≤ 191) ∧ 65536 ≤ (b0 - 240) * 262144 + (x - 128) * 4096 + (y - 128) * 64 + (z - 128) ∧ (b0 - 240) * 262144 + (x - 128) * 4096 + (y - 128) * 64 + (z - 128) ≤ 1114111 then some ((b0 - 240) * 262144 + (x - 128) * 4096 + (y - 128) * 64 + (z - 128), 4) else none) else none : Option (Nat × Nat)) = none := by
     split
     ·rw [if_neg (fun h => hr h.2.2.2)]
     ·rfl
    rw [hn]
    simp only [fin]
    refine if_neg fun hh => hr ?_
    obtain ⟨h1, h2⟩ := hh
    split at h2
    ·omega
    ·split at h2
     ·omega
     ·split at h2
      ·omega
      ·omega
  ·rw [if_neg hc]
   have hn : (if b0 < 245 then (if (128 ≤ x ∧ x ≤ 191) ∧ (128 ≤ y ∧ y ≤ 191) ∧ (128 ≤ z ∧ z ≤ 191) ∧ 65536 ≤ (b0 - 240) * 262144 + (x - 128) * 4096 + (y - 128) * 64 + (z - 128) ∧ (b0 - 240) * 262144 + (x - 128) * 4096 + (y - 128) * 64 + (z - 128) ≤ 1114111 then some ((b0 - 240) * 262144 + (x - 128) * 4096 + (y - 128) * 64 + (z - 128), 4) else none) else none : Option (Nat × Nat)) = none := by
    split
    ·rw [if_neg (fun h => hc ⟨h.1, h.2.1, h.2.2.1⟩)]
    ·rfl
   rw [hn]; rfl
theorem lead3 (b0 : Nat) (h : 224 ≤ b0 ∧ b0 < 240) : ∀ rest : List Nat, (if 2 ≤ rest.length then fin 3 (conts (b0 - 224) rest 2) else -1) = oneS (b0 :: rest)
 | [] => by
  have : oneN [b0] = none := by simp only [oneN]; rw [if_neg (by omega), if_neg (by omega), if_neg (by omega), if_pos h.2]
  unfold oneS; rw [this]; rfl
 | [x] => by
  have : oneN [b0, x] = none := by simp only [oneN]; rw [if_neg (by omega), if_neg (by omega), if_neg (by omega), if_pos h.2]
  unfold oneS; rw [this]; rfl
 | x :: y :: r => by
  rw [if_pos (by simp only [List.length_cons]; omega)]
  have e : oneN (b0 :: x :: y :: r) = if (128 ≤ x ∧ x ≤ 191) ∧ (128 ≤ y ∧ y ≤ 191) ∧ 2048 ≤ (b0 - 224) * 4096 + (x - 128) * 64 + (y - 128) ∧ ((b0 - 224) * 4096 + (x - 128) * 64 + (y - 128) < 55296 ∨ 57344 ≤ (b0 - 224) * 4096 + (x - 128) * 64 + (y - 128)) then some ((b0 - 224) * 4096 + (x - 128) * 64 + (y - 128), 3) else none := by
   simp only [oneN]; rw [if_neg (by omega), if_neg (by omega), if_neg (by omega), if_pos h.2]
  have e2 : conts (b0 - 224) (x :: y :: r) 2 = if (128 ≤ x ∧ x ≤ 191) ∧ (128 ≤ y ∧ y ≤ 191) then some (((b0 - 224) * 64 + (x - 128)) * 64 + (y - 128)) else none := by
   simp only [conts]
   by_cases h1 : 128 ≤ x ∧ x ≤ 191
   ·by_cases h2 : 128 ≤ y ∧ y ≤ 191
    ·rw [if_pos h1, if_pos h2, if_pos ⟨h1, h2⟩]
    ·rw [if_pos h1, if_neg h2, if_neg (fun h => h2 h.2)]
   ·rw [if_neg h1, if_neg (fun h => h1 h.1)]
  unfold oneS
  rw [e, e2]
  by_cases hc : (128 ≤ x ∧ x ≤ 191) ∧ (128 ≤ y ∧ y ≤ 191)
  ·rw [if_pos hc]
   have e3 : ((b0 - 224) * 64 + (x - 128)) * 64 + (y - 128) = (b0 - 224) * 4096 + (x - 128) * 64 + (y - 128) := by omega
   rw [e3]
   by_cases hr : 2048 ≤ (b0 - 224) * 4096 + (x - 128) * 64 + (y - 128) ∧ ((b0 - 224) * 4096 + (x - 128) * 64 + (y - 128) < 55296 ∨ 57344 ≤ (b0 - 224) * 4096 + (x - 128) * 64 + (y - 128))
   ·rw [if_pos ⟨hc.1, hc.2, hr⟩]
    simp only [fin]
    rw [if_neg (by omega : ¬ (b0 - 224) * 4096 + (x - 128) * 64 + (y - 128) < 128), if_neg (by omega : ¬ (b0 - 224) * 4096 + (x - 128) * 64 + (y - 128) < 2048), if_pos (by omega : (b0 - 224) * 4096 + (x - 128) * 64 + (y - 128) < 65536), if_pos ⟨by omega, rfl⟩]
   ·rw [if_neg (fun h => hr h.2.2)]
    simp only [fin]
    refine if_neg fun hh => hr ?_
    obtain ⟨h1, h2⟩ := hh
    split at h2
    ·omega
    ·split at h2
     ·omega
     ·split at h2
      ·omega
      ·omega
  ·rw [if_neg hc, if_neg (fun h => hc ⟨h.1, h.2.1⟩)]; rfl
theorem lead2 (b0 : Nat) (h : 192 ≤ b0 ∧ b0 < 224) : ∀ rest : List Nat, (if 1 ≤ rest.length then fin 2 (conts (b0 - 192) rest 1) else -1) = oneS (b0 :: rest)
 | [] => by
  have : oneN [b0] = none := by
   simp only [oneN]; rw [if_neg (by omega)]
   split
   ·rfl
   ·rw [if_pos h.2]
  unfold oneS; rw [this]; rfl
 | x :: r => by
  rw [if_pos (by simp only [List.length_cons]; omega)]
  have e : oneN (b0 :: x :: r) = if b0 < 194 then none else if 128 ≤ x ∧ x ≤ 191 then some ((b0 - 192) * 64 + (x - 128), 2) else none := by
   simp only [oneN]; rw [if_neg (by omega), if_pos h.2]
  have e2 : conts (b0 - 192) (x :: r) 1 = if 128 ≤ x ∧ x ≤ 191 then some ((b0 - 192) * 64 + (x - 128)) else none := by simp only [conts]
  unfold oneS
  rw [e, e2]
  by_cases hc : 128 ≤ x ∧ x ≤ 191
  ·rw [if_pos hc, if_pos hc]
   by_cases hr : b0 < 194
   ·rw [if_pos hr]
    simp only [fin]
    rw [if_pos (by omega : (b0 - 192) * 64 + (x - 128) < 128), if_neg (fun h => by cases h.2)]
   ·rw [if_neg hr]
    simp only [fin]
    rw [if_neg (by omega : ¬ (b0 - 192) * 64 + (x - 128) < 128), if_pos (by omega : (b0 - 192) * 64 + (x - 128) < 2048), if_pos ⟨by omega, rfl⟩]
  ·rw [if_neg hc, if_neg hc]
   have : (if b0 < 194 then none else none : Option (Nat × Nat)) = none := by split <;> rfl
   rw [this]; rfl
theorem One.width {l : List Nat} {p w : Nat} (h : One l p w) : 1 ≤ w ∧ w ≤ l.length := by
 have := oneN_w h.toN
 exact ⟨this.1, this.2.2.1⟩
def pts : Nat → List Nat → Option (List Nat)
 | _, [] => some []
 | 0, _ :: _ => none
 | n + 1, b :: l => match oneN (b :: l) with
  | some (p, w) => (pts n ((b :: l).drop w)).map (p :: ·)
  | none => none
theorem pts_fuel : ∀ (n m : Nat) (l : List Nat), l.length ≤ n → l.length ≤ m → pts n l = pts m l
 | 0, 0, [], _, _ => rfl
 | 0, m + 1, [], _, _ => rfl
 | n + 1, 0, [], _, _ => rfl
 | n + 1, m + 1, [], _, _ => rfl
 | 0, _, b :: l, h, _ => by simp at h
 | n + 1, 0, b :: l, _, h => by simp at h
 | n + 1, m + 1, b :: l, h1, h2 => by
  simp only [pts]
  cases hq : oneN (b :: l) with
  | none => rfl
  | some x =>
   obtain ⟨p, w⟩ := x
   have hw := (oneN_One hq).width
   have : ((b :: l).drop w).length ≤ n ∧ ((b :: l).drop w).length ≤ m := by
    rw [List.length_drop]
    simp only [List.length_cons] at h1 h2 hw ⊢
    omega
   simp only
   rw [pts_fuel n m _ this.1 this.2]
def ptsB (l : List Nat) : Option (List Nat) := pts l.length l
theorem ptsB_nil : ptsB [] = some [] := rfl
theorem ptsB_bad {l : List Nat} (hne : l ≠ []) (h : oneN l = none) : ptsB l = none := by
 cases l with
 | nil => exact (hne rfl).elim
 | cons b l => unfold ptsB; simp only [List.length_cons, pts, h]
theorem ptsB_one {l : List Nat} {p w : Nat} (h : oneN l = some (p, w)) : ptsB l = (ptsB (l.drop w)).map (p :: ·) := by
 cases l with
 | nil => cases h
 | cons b l =>
  have hw := (oneN_One h).width
  unfold ptsB
  simp only [List.length_cons, pts, h]
  rw [pts_fuel l.length ((b :: l).drop w).length _ (by rw [List.length_drop]; simp only [List.length_cons]; omega) (Nat.le_refl _)]
theorem ptsB_len : ∀ (n : Nat) (l L : List Nat), l.length ≤ n → ptsB l = some L → L.length ≤ l.length ∧ l.length ≤ 4 * L.length ∧ ∀ p ∈ L, p ≤ 1114111
 | n, [], L, _, h => by rw [ptsB_nil] at h; cases h; exact ⟨Nat.le_refl _, Nat.le_refl _, fun p hp => by cases hp⟩
 | 0, x :: a, L, hn, h => by simp at hn
 | n + 1, x :: a, L, hn, h => by
  cases hq : oneN (x :: a) with
  | none => rw [ptsB_bad (by simp) hq] at h; cases h
  | some y =>
   obtain ⟨p, w⟩ := y
   obtain ⟨g1, g2, g3, g4, _⟩ := oneN_w hq
   rw [ptsB_one hq] at h
   obtain ⟨L', hL, rfl⟩ := Option.map_eq_some_iff.1 h
   have ih := ptsB_len n _ L' (by rw [List.length_drop]; simp only [List.length_cons] at hn ⊢; omega) hL
   rw [List.length_drop] at ih
   refine ⟨by simp only [List.length_cons] at *; omega, by simp only [List.length_cons] at *; omega, fun q hq => ?_⟩
   rcases List.mem_cons.1 hq with rfl | hq
   ·exact g4
   ·exact ih.2.2 q hq
def ptsS (s : ByteArray) : Option (List Nat) := ptsB (bytN s)
theorem bytN_extract (s : ByteArray) (i j : Nat) : bytN (s.extract i j) = ((bytN s).drop i).take (j - i) := by
 unfold bytN
 rw [ByteArray.data_extract, Array.toList_extract]
 simp only [List.extract_eq_take_drop, List.map_take, List.map_drop]
def castL (L : List Nat) : List Int := L.map fun n : Nat => (n : Int)
theorem bytN_all (s : ByteArray) (i : Nat) : bytN (s.extract i s.size) = (bytN s).drop i := by
 rw [bytN_extract, List.take_of_length_le (by rw [List.length_drop, bytN_len]; omega)]
theorem f31_loop (m : Nat) (s : ByteArray) (hs : s.size ≤ 4000) : ∀ (K i : Nat) (acc : List Int), i ≤ s.size → s.size - i < K → acc.length ≤ i →
  (∀ L, ptsB ((bytN s).drop i) = some L → iter (fun (y : (List Int) × Int) => f31_B2 m s y.1 y.2) K (acc, (i : Int)) = some (.inr (acc ++ castL L, (s.size : Int)))) ∧
  (ptsB ((bytN s).drop i) = none → ∃ j, iter (fun (y : (List Int) × Int) => f31_B2 m s y.1 y.2) K (acc, (i : Int)) = some (.inl ([], ⟨5, j⟩)))
 | 0, i, acc, h1, h2, h3 => by omega
 | K + 1, i, acc, h1, h2, h3 => by
  by_cases hlt : i < s.size
  ·have hne : (bytN s).drop i ≠ [] := fun e => by have := List.drop_eq_nil_iff.1 e; rw [bytN_len] at this; omega
   have hsub : ssub s (i : Int) (s.size : Int) = some (s.extract i s.size) := by
    unfold ssub; rw [if_pos ⟨by omega, by omega, by omega⟩, Int.toNat_natCast, Int.toNat_natCast]
   have hsz : (s.extract i s.size).size = s.size - i := by rw [← bytN_len, bytN_all, List.length_drop, bytN_len]
   have hdec : Lib.decodeGo (s.extract i s.size) = orBad (oneN ((bytN s).drop i)) := by
    unfold Lib.decodeGo
    rw [if_neg (by omega), decode_one _ 0 (by omega), bytN_all, List.drop_zero]
   have e0 : f31_B2 m s acc (i : Int) = f31_r1 m acc (i : Int) (((orBad (oneN ((bytN s).drop i))).1 : Int), ((orBad (oneN ((bytN s).drop i))).2 : Int)) ((((orBad (oneN ((bytN s).drop i))).1 : Int) == 65533) && (decide (((orBad (oneN ((bytN s).drop i))).2 : Int) ≤ 1))) := by
    unfold f31_B2
    rw [decide_eq_true (by omega), cnd_true, hsub]
    simp only [bnd_some', f69, hdec]
   cases hq : oneN ((bytN s).drop i) with
   | none =>
    rw [hq] at e0
    refine ⟨fun L hL => ?_, fun _ => ⟨(i : Int), ?_⟩⟩
    ·rw [ptsB_bad hne hq] at hL; cases hL
    ·unfold iter
     simp only [e0, orBad]
     rfl
   | some y =>
    obtain ⟨p, w⟩ := y
    rw [hq] at e0
    obtain ⟨g1, g2, g3, g4, g5, _⟩ := oneN_w hq
    rw [List.length_drop, bytN_len] at g3
    have hc : (((p : Int) == 65533) && (decide ((w : Int) ≤ 1))) = false := by
     by_cases hw : w = 1
     ·have := g5 hw
      have : ((p : Int) == 65533) = false := by simp only [beq_eq_false_iff_ne, ne_eq]; omega
      rw [this]; rfl
     ·rw [decide_eq_false (by omega), Bool.and_false]
    have hw1 : w64 (p : Int) = (p : Int) := w64_id ⟨by omega, by omega⟩
    have hw2 : w64 ((i : Int) + (w : Int)) = ((i + w : Nat) : Int) := by rw [w64_id ⟨by omega, by omega⟩]; omega
    have e1 : f31_B2 m s acc (i : Int) = some (.nxt (acc ++ [(p : Int)], ((i + w : Nat) : Int))) := by
     rw [e0]
     show f31_r1 m acc (i : Int) ((p : Int), (w : Int)) (((p : Int) == 65533) && (decide ((w : Int) ≤ 1))) = _
     rw [hc]
     simp only [f31_r1, cnd_false, hw1, hw2]
     rw [app_some 8 acc [(p : Int)] (by simp only [List.length_cons, List.length_nil]; omega) (by simp only [List.length_cons, List.length_nil]; omega)]
     rfl
    have ih := f31_loop m s hs K (i + w) (acc ++ [(p : Int)]) (by omega) (by omega) (by simp only [List.length_append, List.length_cons, List.length_nil]; omega)
    rw [ptsB_one hq, List.drop_drop]
    refine ⟨fun L hL => ?_, fun hn => ?_⟩
    ·obtain ⟨L', hL', rfl⟩ := Option.map_eq_some_iff.1 hL
     have := ih.1 L' hL'
     unfold iter
     simp only [e1]
     rw [this]
     simp [castL]
    ·obtain ⟨j, hj⟩ := ih.2 (by simpa using hn)
     refine ⟨j, ?_⟩
     unfold iter
     simp only [e1]
     exact hj
  ·have hi : i = s.size := by omega
   have hd : (bytN s).drop i = [] := List.drop_eq_nil_iff.2 (by rw [bytN_len]; omega)
   rw [hd]
   refine ⟨fun L hL => ?_, fun hn => by cases hn⟩
   rw [ptsB_nil] at hL
   cases hL
   unfold iter
   have e0 : f31_B2 m s acc (i : Int) = some (.brk (acc, (i : Int))) := by
    unfold f31_B2
    rw [decide_eq_false (by omega), cnd_false]
   simp only [e0]
   rw [hi]
   simp [castL]
theorem f31_eq (m : Nat) (s : ByteArray) (hm : 4001 < m) : (∀ L, s.size ≤ 4000 → ptsS s = some L → f31 m s = some (castL L, ⟨0, 0⟩)) ∧ ((¬ s.size ≤ 4000 ∨ ptsS s = none) → ∃ c j, c ≠ 0 ∧ f31 m s = some ([], ⟨c, j⟩)) := by
 by_cases hs : s.size ≤ 4000
 ·have h := f31_loop m s hs m 0 [] (by omega) (by omega) (Nat.le_refl _)
  rw [List.drop_zero] at h
  have e0 : f31 m s = brk (iter (fun (y : (List Int) × Int) => f31_B2 m s y.1 y.2) m ([], ((0 : Nat) : Int))) some fun y49 => some ((y49.1, (⟨0, 0⟩ : S26))) := by
   unfold f31
   rw [decide_eq_false (by omega), cnd_false]
   rfl
  refine ⟨fun L _ hL => ?_, fun hn => ?_⟩
  ·rw [e0, h.1 L hL]; simp
  ·rcases hn with hn | hn
   ·exact (hn hs).elim
   ·obtain ⟨j, hj⟩ := h.2 hn
    exact ⟨5, j, by decide, by rw [e0, hj]; rfl⟩
 ·refine ⟨fun L h _ => (hs h).elim, fun _ => ⟨1, -1, by decide, ?_⟩⟩
  unfold f31
  rw [decide_eq_true (by omega)]
  rfl
def badP (p : Nat) : Bool := [0, 9, 10, 32, 40, 41, 91, 93, 44, 59].contains p || decide (983040 ≤ p)
def okP (L : List Nat) : Bool := decide (1 ≤ L.length ∧ L.length ≤ 30) && L.all (fun p => !badP p)
def wordS (s : ByteArray) : Bool := decide (s.size ≤ 4000) && match ptsS s with
 | some L => okP L
 | none => false
theorem ix_bad : ∀ p : Nat, p < 128 → decide (Lib.indexByte (⟨#[32, 9, 10, 40, 41, 91, 93, 44, 59]⟩ : ByteArray).data.toList (IntKind.u8.wrap (p : Int)).toNat.toUInt8 ≥ 0) = [9, 10, 32, 40, 41, 91, 93, 44, 59].contains p := by decide +kernel
theorem castL_get {L : List Nat} {i : Nat} {x : Int} (h : (castL L)[i]? = some x) : ∃ p : Nat, x = (p : Int) ∧ p ∈ L := by
 unfold castL at h
 rw [List.getElem?_map] at h
 obtain ⟨p, h1, h2⟩ := Option.map_eq_some_iff.1 h
 exact ⟨p, h2.symm, List.mem_of_getElem? h1⟩
theorem castL_all (L : List Nat) : (castL L).all (fun x => !badP x.toNat) = L.all (fun p => !badP p) := by
 unfold castL
 rw [List.all_map]
 rfl
theorem castL_len (L : List Nat) : (castL L).length = L.length := by unfold castL; rw [List.length_map]
theorem f14_step (m : Nat) (k : Nat) (hk : k ≤ 4000) (p : Nat) (hp : p ≤ 1114111) : f14_r2 m (k : Int) (p : Int) (((p : Int) == 0) || decide ((p : Int) ≥ 983040)) = some (if badP p then Stp.ret false else Stp.nxt ((k : Int) + 1)) := by
 have hw : w64 ((k : Int) + 1) = (k : Int) + 1 := w64_id ⟨by omega, by omega⟩
 unfold f14_r2 f14_r1
 by_cases h1 : p = 0 ∨ 983040 ≤ p
 ·have hb : (((p : Int) == 0) || decide ((p : Int) ≥ 983040)) = true := by
   simp only [Bool.or_eq_true, beq_iff_eq, decide_eq_true_eq]; omega
  have hbad : badP p = true := by
   unfold badP
   rcases h1 with h | h
   ·subst h; rfl
   ·rw [decide_eq_true h, Bool.or_true]
  rw [hb, hbad]
  rfl
 ·have hb : (((p : Int) == 0) || decide ((p : Int) ≥ 983040)) = false := by
   simp only [Bool.or_eq_false_iff, beq_eq_false_iff_ne, decide_eq_false_iff_not, ne_eq]; omega
  rw [hb, cnd_false]
  by_cases h2 : p < 128
  ·rw [decide_eq_true (by omega : (p : Int) < 128), cnd_true]
   simp only [f32, bnd_some', ix_bad p h2]
   have hbad : badP p = [9, 10, 32, 40, 41, 91, 93, 44, 59].contains p := by
    unfold badP
    rw [decide_eq_false (by omega), Bool.or_false]
    have : (p == 0) = false := by simp; omega
    simp only [List.contains_cons, this, Bool.false_or]
   rw [hbad]
   cases [9, 10, 32, 40, 41, 91, 93, 44, 59].contains p
   ·rw [hw]; rfl
   ·rfl
  ·rw [decide_eq_false (by omega : ¬ (p : Int) < 128), cnd_false]
   have hbad : badP p = false := by
    unfold badP
    rw [decide_eq_false (by omega), Bool.or_false]
    simp only [List.contains_eq_any_beq, List.any_cons, List.any_nil, Bool.or_false, Bool.or_eq_false_iff, beq_eq_false_iff_ne, ne_eq]
    omega
   simp only [bnd_some', hbad, hw]
   rfl
theorem f14_loop (m : Nat) (L : List Nat) (f : S26) (hL : L.length ≤ 4000) (hp : ∀ p ∈ L, p ≤ 1114111) (hm : 4001 < m) :
  iter (fun (y : Int) => f14_B3 m (castL L, f) y) m 0 = if L.all (fun p => !badP p) then some (.inr (L.length : Int)) else some (.inl false) := by
 have e : iter (fun (y : Int) => f14_B3 m (castL L, f) y) m 0 = landed (fun (_ : Unit) (i : Int) => i) (castL L).length (scan (fun _ (_ : Unit) x => if !badP x.toNat then some (.inr ()) else some (.inl false)) 0 () (castL L)) := by
  refine iter_scan (castL L) (fun (y : Int) => f14_B3 m (castL L, f) y) (fun (_ : Unit) (i : Int) => i) (fun _ (_ : Unit) x => if !badP x.toNat then some (.inr ()) else some (.inl false)) (fun u k hi => ?_) m 0 () (by omega) (by rw [castL_len]; omega)
  rw [castL_len] at hi
  refine body_turn rfl fun x hx => ?_
  obtain ⟨p, rfl, hmem⟩ := castL_get hx
  rw [f14_step m k (by omega) p (hp p hmem), Int.toNat_natCast]
  cases badP p <;> rfl
 rw [e, scan_all, castL_all, castL_len]
 cases L.all (fun p => !badP p) <;> rfl
theorem ptsS_len {s : ByteArray} {L : List Nat} (h : ptsS s = some L) : L.length ≤ s.size ∧ s.size ≤ 4 * L.length ∧ ∀ p ∈ L, p ≤ 1114111 := by
 have := ptsB_len _ _ L (Nat.le_refl _) h
 rwa [bytN_len] at this
theorem f14_eq (m : Nat) (s : ByteArray) (hm : 4001 < m) : f14 m s = some (wordS s) := by
 obtain ⟨g1, g2⟩ := f31_eq m s hm
 unfold f14 wordS
 by_cases hs : s.size ≤ 4000
 ·cases hq : ptsS s with
  | some L =>
   have hl := ptsS_len hq
   rw [g1 L hs hq]
   simp only [bnd_some', f14_r5, f14_r4, castL_len, okP, beq_self_eq_true, Bool.true_and, Bool.not_true, Bool.false_or, decide_eq_true hs]
   by_cases hc : 1 ≤ L.length ∧ L.length ≤ 30
   ·have hb : (decide ((L.length : Int) < 1) || decide ((L.length : Int) > 30)) = false := by
     simp only [Bool.or_eq_false_iff, decide_eq_false_iff_not]; omega
    rw [hb, cnd_false, f14_loop m L _ (by omega) hl.2.2 hm, decide_eq_true hc]
    cases L.all (fun p => !badP p) <;> rfl
   ·have hb : (decide ((L.length : Int) < 1) || decide ((L.length : Int) > 30)) = true := by
     simp only [Bool.or_eq_true, decide_eq_true_eq]; omega
    rw [hb, decide_eq_false hc]
    rfl
  | none =>
   obtain ⟨c, j, hc, e⟩ := g2 (.inr hq)
   rw [e]
   have hb : (c == 0) = false := by simpa using hc
   simp only [bnd_some', hb, Bool.false_and, Bool.not_false, Bool.true_or, f14_r5, f14_r4, cnd_true, Bool.and_false]
 ·obtain ⟨c, j, hc, e⟩ := g2 (.inl hs)
  rw [e]
  have hb : (c == 0) = false := by simpa using hc
  simp only [bnd_some', hb, Bool.false_and, Bool.not_false, Bool.true_or, f14_r5, f14_r4, cnd_true, decide_eq_false hs]
def badL : List Int := [0, 9, 10, 32, 40, 41, 91, 93, 44, 59]
theorem badL_all (p : Nat) : badL.all (fun y => !((p : Int) == y)) = !([0, 9, 10, 32, 40, 41, 91, 93, 44, 59].contains p) := by
 rw [Bool.eq_iff_iff]
 simp only [badL, List.all_cons, List.all_nil, List.contains_eq_any_beq, List.any_cons, List.any_nil, Bool.and_eq_true, Bool.not_eq_true', Bool.or_eq_false_iff, beq_eq_false_iff_ne, ne_eq, and_true]
 omega
theorem f45_eq (m : Nat) (s : ByteArray) (hm : 31 < m) : f45 m s = some (nameS s) := by
 unfold f45 f45_r8 nameS
 by_cases h : 1 ≤ s.size ∧ s.size ≤ 30
 ·have hb : ((((s.size : Int)) == 0) || (decide ((s.size : Int) > 30))) = false := by
   simp only [Bool.or_eq_false_iff, decide_eq_false_iff_not, beq_eq_false_iff_ne]
   omega
  have hl := byt_len s
  obtain ⟨c0, r, hc⟩ : ∃ c r, byt s = c :: r := by
   cases hq : byt s with
   | nil => rw [hq] at hl; simp at hl; omega
   | cons c r => exact ⟨c, r, rfl⟩
  have h0 : sidx s 0 = some c0 := by
   have := sidx_get s 0
   rw [hc] at this
   exact this
  rw [hb, decide_eq_true h, h0]
  simp only [cnd_false, bnd_some', f45_r7, Bool.true_and]
  have hfirst : ∀ b : Bool, allP (fun i c => letB c || (i != 0 && nameB c)) 0 (byt s) = (letB c0 && (byt s).all nameB) := by
   intro _
   have hn : letB c0 = true → nameB c0 = true := fun h => by unfold nameB; rw [h]; rfl
   have hrest : ∀ (l : List Int) (i : Int), 1 ≤ i → allP (fun i c => letB c || (i != 0 && nameB c)) i l = l.all nameB := by
    intro l
    induction l with
    | nil => intro i _; rfl
    | cons x l ih =>
     intro i hi
     have hi0 : (i != 0) = true := by simp; omega
     have hx : (letB x || nameB x) = nameB x := by unfold nameB; cases letB x <;> simp
     simp only [allP, List.all_cons, ih (i + 1) (by omega), hi0, Bool.true_and, hx]
   rw [hc]
   simp only [allP, List.all_cons]
   rw [hrest r (0 + 1) (by omega)]
   cases hq : letB c0 with
   | true => rw [hn hq]; simp
   | false => simp
  rw [hfirst true]
  by_cases h1 : c0 < 97
  ·have : letB c0 = false := by unfold letB; rw [decide_eq_false (by omega)]; rfl
   rw [decide_eq_true h1, this]
   rfl
  ·rw [decide_eq_false h1]
   simp only [cnd_false, h0, bnd_some', f45_r6]
   by_cases h2 : c0 > 122
   ·have : letB c0 = false := by unfold letB; rw [decide_eq_false (by omega : ¬ c0 ≤ 122), Bool.and_false]
    rw [decide_eq_true h2, this]
    rfl
   ·have hlet : letB c0 = true := by unfold letB; rw [decide_eq_true (by omega), decide_eq_true (by omega)]; rfl
    rw [decide_eq_false h2, hlet, cnd_false, Bool.true_and]
    have e : iter (fun (y : Int) => f45_B5 m s y) m 0 = landed (fun (_ : Unit) (i : Int) => i) (byt s).length (scan (fun _ (_ : Unit) c => if nameB c then some (.inr ()) else some (.inl false)) 0 () (byt s)) := by
     refine iter_scan (byt s) (fun (y : Int) => f45_B5 m s y) (fun (_ : Unit) (i : Int) => i) (fun _ (_ : Unit) c => if nameB c then some (.inr ()) else some (.inl false)) (fun u k hi => ?_) m 0 () (by omega) (by rw [byt_len]; omega)
     unfold f45_B5
     rw [← hl]
     refine body_turn' rfl fun c hcx => ?_
     have hw : w64 ((k : Int) + 1) = (k : Int) + 1 := w64_id ⟨by omega, by omega⟩
     rw [sidx_get, hcx]
     simp only [bnd_some', f45_r4, f45_r3, f45_r2, f45_r1, hw]
     have key : (((((decide (c ≥ 97)) && (decide (c ≤ 122))) || (((decide (c ≥ 48)) && (decide (c ≤ 57))))) || (c == 95)) || (c == 45)) = nameB c := rfl
     rw [key]
     cases nameB c <;> rfl
    rw [e, scan_all nameB]
    cases (byt s).all nameB <;> rfl
 ·have hb : ((((s.size : Int)) == 0) || (decide ((s.size : Int) > 30))) = true := by
   simp only [Bool.or_eq_true, decide_eq_true_eq, beq_iff_eq]
   omega
  rw [hb, decide_eq_false h]
  rfl
theorem f22_eq (m : Nat) (l : List ByteArray) (hm : 31 < m) : f22 m l 4 = some (tagsS l) := by
 unfold f22 tagsS
 by_cases hl : l.length > 4
 ·rw [if_pos hl, decide_eq_true (by omega)]; rfl
 ·rw [if_neg hl, decide_eq_false (by omega), cnd_false]
  have e : iter (fun (y : Int) => f22_B1 m l y) m 0 = landed (fun (_ : Unit) (i : Int) => i) l.length (scan (fun _ (_ : Unit) x => if nameS x then some (.inr ()) else some (.inl 10)) 0 () l) := by
   refine iter_scan l (fun (y : Int) => f22_B1 m l y) (fun (_ : Unit) (i : Int) => i) (fun _ (_ : Unit) x => if nameS x then some (.inr ()) else some (.inl 10)) (fun u k hi => ?_) m 0 () (by omega) (by omega)
   refine body_turn rfl fun x hx => ?_
   have hw : w64 ((k : Int) + 1) = (k : Int) + 1 := w64_id ⟨by omega, by omega⟩
   rw [f45_eq m x hm, hw]
   by_cases h : nameS x = true <;> simp [h]
  rw [e, scan_all nameS]
  by_cases h : l.all nameS = true
  ·rw [if_pos h, if_pos h]; rfl
  ·rw [if_neg h, if_neg h]; rfl
theorem f82_eq (m : Nat) (l : List Nat) (p w : Nat) (h : oneN l = some (p, w)) : f82 m (p : Int) = some (w : Int) := by
 obtain ⟨h1, h2, h3, h4, h5, h6, h7, h8⟩ := oneN_w h
 have hw : w = 1 ∨ w = 2 ∨ w = 3 ∨ w = 4 := by omega
 unfold f82
 rcases hw with rfl | rfl | rfl | rfl
 ·have := h5 rfl
  rw [decide_eq_true (by omega)]; rfl
 ·have := h6 rfl
  rw [decide_eq_false (by omega), decide_eq_true (by omega)]; rfl
 ·have := h7 rfl
  rw [decide_eq_false (by omega), decide_eq_false (by omega), decide_eq_true (by omega)]; rfl
 ·have := h8 rfl
  rw [decide_eq_false (by omega), decide_eq_false (by omega), decide_eq_false (by omega)]; rfl
theorem f81_loop (m : Nat) (s : ByteArray) (i n : Nat) (hn : i + n ≤ s.size) (hs : s.size ≤ 4000) : ∀ (d K k v : Nat), k + d = n → d < K → d ≤ 3 → v ≤ BB d →
  iter (fun (y : Int × Int) => f81_B2 m s (i : Int) (n : Int) y.1 y.2) K ((v : Int), (k : Int)) = match conts v ((bytN s).drop (i + k)) d with
   | some r => some (.inr ((r : Int), (n : Int)))
   | none => some (.inl (-1))
 | d, 0, k, v, h1, h2, h3, h4 => by omega
 | 0, K + 1, k, v, h1, h2, h3, h4 => by
  have hk : k = n := by omega
  subst hk
  have e0 : f81_B2 m s (i : Int) (k : Int) (v : Int) (k : Int) = some (.brk ((v : Int), (k : Int))) := by
   unfold f81_B2
   rw [decide_eq_false (by omega), cnd_false]
  unfold iter
  simp only [e0, conts]
 | d + 1, K + 1, k, v, h1, h2, h3, h4 => by
  have hlt : i + k < s.size := by omega
  have hl : i + k < (bytN s).length := by rw [bytN_len]; exact hlt
  have hb := bytN_lt s ((bytN s)[i + k]) (List.getElem_mem hl)
  have hw1 : w64 ((i : Int) + (k : Int)) = ((i + k : Nat) : Int) := by rw [w64_id ⟨by omega, by omega⟩]; omega
  have hw2 : w64 ((k : Int) + 1) = ((k + 1 : Nat) : Int) := by rw [w64_id ⟨by omega, by omega⟩]; omega
  have hx : sidx s ((i + k : Nat) : Int) = some (((bytN s)[i + k] : Nat) : Int) := by
   have := byt_get s (i + k) 0
   rw [Nat.add_zero] at this
   rw [this, List.getElem?_drop, Nat.add_zero, List.getElem?_eq_getElem hl]; rfl
  rw [List.drop_eq_getElem_cons hl]
  generalize (bytN s)[i + k] = b at *
  have hw3 : w64 (b : Int) = (b : Int) := w64_id ⟨by omega, by omega⟩
  have hB := BB_step d h3
  have hBl := BB_le d
  simp only [conts]
  by_cases hc : 128 ≤ b ∧ b ≤ 191
  ·have hw4 : w64 ((v : Int) * 64) = ((v * 64 : Nat) : Int) := by rw [w64_id ⟨by omega, by omega⟩]; omega
   have hw5 : w64 (((v * 64 : Nat) : Int) + (b : Int)) = ((v * 64 + b : Nat) : Int) := by rw [w64_id ⟨by omega, by omega⟩]; omega
   have hw6 : w64 (((v * 64 + b : Nat) : Int) - 128) = ((v * 64 + (b - 128) : Nat) : Int) := by rw [w64_id ⟨by omega, by omega⟩]; omega
   have e0 : f81_B2 m s (i : Int) (n : Int) (v : Int) (k : Int) = some (.nxt (((v * 64 + (b - 128) : Nat) : Int), ((k + 1 : Nat) : Int))) := by
    unfold f81_B2
    rw [decide_eq_true (by omega), cnd_true, hw1, hx]
    simp only [bnd_some', f81_r1, hw3, hw4, hw5, hw6, hw2]
    rw [decide_eq_false (by omega), decide_eq_false (by omega)]
    rfl
   have ih := f81_loop m s i n hn hs d K (k + 1) (v * 64 + (b - 128)) (by omega) (by omega) (by omega) (by omega)
   rw [if_pos hc]
   unfold iter
   simp only [e0]
   exact ih
  ·have e0 : f81_B2 m s (i : Int) (n : Int) (v : Int) (k : Int) = some (.ret (-1)) := by
    unfold f81_B2
    rw [decide_eq_true (by omega), cnd_true, hw1, hx]
    simp only [bnd_some', f81_r1, hw3]
    have : (decide ((b : Int) < 128) || decide ((b : Int) > 191)) = true := by
     simp only [Bool.or_eq_true, decide_eq_true_eq]; omega
    rw [this]
    rfl
   rw [if_neg hc]
   unfold iter
   simp only [e0]
theorem f81_j4_eq (m : Nat) (s : ByteArray) (i n v : Nat) (h1 : 1 ≤ n) (h4 : n ≤ 4) (hv : v ≤ BB (n - 1)) (hi : i < s.size) (hs : s.size ≤ 4000) (hm : 5 < m) :
  f81_j4 m s (i : Int) (n : Int) (v : Int) = some (if i + n ≤ s.size then fin n (conts v ((bytN s).drop (i + 1)) (n - 1)) else -1) := by
 unfold f81_j4
 have hw1 : w64 ((i : Int) + (n : Int)) = ((i + n : Nat) : Int) := by rw [w64_id ⟨by omega, by omega⟩]; omega
 rw [hw1]
 by_cases hn : i + n ≤ s.size
 ·rw [decide_eq_false (by omega), if_pos hn, cnd_false]
  have e := f81_loop m s i n hn hs (n - 1) m 1 v (by omega) (by omega) (by omega) hv
  have e : iter (fun (y : Int × Int) => f81_B2 m s (i : Int) (n : Int) y.1 y.2) m ((v : Int), 1) = _ := e
  rw [e]
  cases hc : conts v ((bytN s).drop (i + 1)) (n - 1) with
  | none => rfl
  | some r =>
   simp only [brk_inr, f130, f130_r2, f130_r1, bnd_some']
   have hsc : (((decide ((r : Int) ≥ 0)) && (decide ((r : Int) < 55296))) || ((decide ((r : Int) > 57343)) && (decide ((r : Int) ≤ 1114111)))) = decide (r < 55296 ∨ (57344 ≤ r ∧ r ≤ 1114111)) := by
    rw [Bool.eq_iff_iff]
    simp only [Bool.or_eq_true, Bool.and_eq_true, decide_eq_true_eq]
    omega
   have hwd : f82 m (r : Int) = some ((if r < 128 then 1 else if r < 2048 then 2 else if r < 65536 then 3 else 4 : Nat) : Int) := by
    unfold f82
    by_cases k1 : r < 128
    ·rw [decide_eq_true (by omega), if_pos k1]; rfl
    ·rw [decide_eq_false (by omega), if_neg k1]
     by_cases k2 : r < 2048
     ·rw [decide_eq_true (by omega), if_pos k2]; rfl
     ·rw [decide_eq_false (by omega), if_neg k2]
      by_cases k3 : r < 65536
      ·rw [decide_eq_true (by omega), if_pos k3]; rfl
      ·rw [decide_eq_false (by omega), if_neg k3]; rfl
   rw [hsc, hwd]
   simp only [fin]
   generalize (if r < 128 then 1 else if r < 2048 then 2 else if r < 65536 then 3 else 4 : Nat) = wd
   by_cases hq : r < 55296 ∨ (57344 ≤ r ∧ r ≤ 1114111)
   ·rw [decide_eq_true hq]
    simp only [Bool.not_true, cnd_false, bnd_some', f81_r3]
    by_cases hwn : wd = n
    ·subst hwn
     have hb : (((wd : Nat) : Int) != ((wd : Nat) : Int)) = false := by simp
     rw [hb, cnd_false, if_pos ⟨hq, rfl⟩]
    ·have hb : (((wd : Nat) : Int) != ((n : Nat) : Int)) = true := by simp only [bne_iff_ne, ne_eq]; omega
     rw [hb, cnd_true, if_neg (fun h => hwn h.2)]
   ·rw [decide_eq_false hq]
    simp only [Bool.not_false, cnd_true, bnd_some', f81_r3]
    rw [if_neg (fun h => hq h.1)]
 ·rw [decide_eq_true (by omega), if_neg hn]; rfl
theorem f81_eq (m : Nat) (s : ByteArray) (i : Nat) (hi : i < s.size) (hs : s.size ≤ 4000) (hm : 5 < m) : f81 m s (i : Int) = some (oneS ((bytN s).drop i)) := by
 have hl : i < (bytN s).length := by rw [bytN_len]; exact hi
 have hb := bytN_lt s ((bytN s)[i]) (List.getElem_mem hl)
 have hx : sidx s (i : Int) = some (((bytN s)[i] : Nat) : Int) := by
  have := byt_get s i 0
  rw [Nat.add_zero] at this
  rw [this, List.getElem?_drop, Nat.add_zero, List.getElem?_eq_getElem hl]; rfl
 have hd := List.drop_eq_getElem_cons hl
 have hrl : ((bytN s).drop (i + 1)).length = s.size - (i + 1) := by rw [List.length_drop, bytN_len]
 rw [hd]
 unfold f81
 rw [hx]
 generalize (bytN s)[i] = b at *
 have hw : w64 (b : Int) = (b : Int) := w64_id ⟨by omega, by omega⟩
 simp only [bnd_some', hw]
 by_cases k4 : 240 ≤ b
 ·rw [decide_eq_true (by omega), cnd_true]
  have hw4 : w64 ((b : Int) - 240) = ((b - 240 : Nat) : Int) := by rw [w64_id ⟨by omega, by omega⟩]; omega
  rw [hw4]
  refine (f81_j4_eq m s i 4 (b - 240) (by omega) (by omega) (by show b - 240 ≤ 100; omega) hi hs hm).trans ?_
  rw [← lead4 b ⟨k4, hb⟩, hrl]
  have : (i + 4 ≤ s.size) = (3 ≤ s.size - (i + 1)) := propext ⟨fun h => by omega, fun h => by omega⟩
  simp only [this]
 rw [decide_eq_false (by omega), cnd_false]
 by_cases k3 : 224 ≤ b
 ·rw [decide_eq_true (by omega), cnd_true]
  have hw4 : w64 ((b : Int) - 224) = ((b - 224 : Nat) : Int) := by rw [w64_id ⟨by omega, by omega⟩]; omega
  rw [hw4]
  refine (f81_j4_eq m s i 3 (b - 224) (by omega) (by omega) (by show b - 224 ≤ 6500; omega) hi hs hm).trans ?_
  rw [← lead3 b ⟨k3, by omega⟩, hrl]
  have : (i + 3 ≤ s.size) = (2 ≤ s.size - (i + 1)) := propext ⟨fun h => by omega, fun h => by omega⟩
  simp only [this]
 rw [decide_eq_false (by omega), cnd_false]
 by_cases k2 : 192 ≤ b
 ·rw [decide_eq_true (by omega), cnd_true]
  have hw4 : w64 ((b : Int) - 192) = ((b - 192 : Nat) : Int) := by rw [w64_id ⟨by omega, by omega⟩]; omega
  rw [hw4]
  refine (f81_j4_eq m s i 2 (b - 192) (by omega) (by omega) (by show b - 192 ≤ 420000; omega) hi hs hm).trans ?_
  rw [← lead2 b ⟨k2, by omega⟩, hrl]
  have : (i + 2 ≤ s.size) = (1 ≤ s.size - (i + 1)) := propext ⟨fun h => by omega, fun h => by omega⟩
  simp only [this]
 rw [decide_eq_false (by omega), cnd_false]
 by_cases k1 : 128 ≤ b
 ·rw [decide_eq_true (by omega), cnd_true]
  unfold oneS
  simp only [oneN]
  rw [if_neg (by omega), if_pos (by omega)]
 ·rw [decide_eq_false (by omega), cnd_false]
  refine (f81_j4_eq m s i 1 b (by omega) (by omega) (by show b ≤ 27000000; omega) hi hs hm).trans ?_
  rw [if_pos (by omega)]
  unfold oneS
  simp only [oneN, conts, fin, Nat.sub_self]
  rw [if_pos (by omega : b < 128), if_pos (by omega : b < 128), if_pos ⟨by omega, rfl⟩]
theorem f44_loop (m : Nat) (s : ByteArray) (hs : s.size ≤ 4000) (hm : 5 < m) : ∀ (K i : Nat) (acc : List Int), i ≤ s.size → s.size - i < K → acc.length ≤ i →
  (∀ L, ptsB ((bytN s).drop i) = some L → iter (fun (y : (List Int) × Int) => f44_B1 m s y.1 y.2) K (acc, (i : Int)) = some (.inr (acc ++ castL L, (s.size : Int)))) ∧
  (ptsB ((bytN s).drop i) = none → ∃ j, iter (fun (y : (List Int) × Int) => f44_B1 m s y.1 y.2) K (acc, (i : Int)) = some (.inl ([], ⟨5, j⟩)))
 | 0, i, acc, h1, h2, h3 => by omega
 | K + 1, i, acc, h1, h2, h3 => by
  by_cases hlt : i < s.size
  ·have hne : (bytN s).drop i ≠ [] := fun e => by have := List.drop_eq_nil_iff.1 e; rw [bytN_len] at this; omega
   have e0 : f44_B1 m s acc (i : Int) = cnd (decide (oneS ((bytN s).drop i) < 0)) (some (.ret ([], ⟨5, (i : Int)⟩))) (bnd (app 8 acc [oneS ((bytN s).drop i)]) fun v25 => bnd (f82 m (oneS ((bytN s).drop i))) fun v26 => some (.nxt (v25, w64 ((i : Int) + v26)))) := by
    unfold f44_B1
    rw [decide_eq_true (by omega), cnd_true, f81_eq m s i hlt hs hm]
    rfl
   cases hq : oneN ((bytN s).drop i) with
   | none =>
    have hm1 : oneS ((bytN s).drop i) = -1 := by unfold oneS; rw [hq]
    rw [hm1] at e0
    refine ⟨fun L hL => ?_, fun _ => ⟨(i : Int), ?_⟩⟩
    ·rw [ptsB_bad hne hq] at hL; cases hL
    ·unfold iter
     simp only [e0]
     rfl
   | some y =>
    obtain ⟨p, w⟩ := y
    have hp : oneS ((bytN s).drop i) = (p : Int) := by unfold oneS; rw [hq]
    rw [hp] at e0
    obtain ⟨g1, g2, g3, g4, g5, _⟩ := oneN_w hq
    rw [List.length_drop, bytN_len] at g3
    have hw2 : w64 ((i : Int) + (w : Int)) = ((i + w : Nat) : Int) := by rw [w64_id ⟨by omega, by omega⟩]; omega
    have e1 : f44_B1 m s acc (i : Int) = some (.nxt (acc ++ [(p : Int)], ((i + w : Nat) : Int))) := by
     rw [e0, decide_eq_false (by omega), cnd_false, app_some 8 acc [(p : Int)] (by simp only [List.length_cons, List.length_nil]; omega) (by simp only [List.length_cons, List.length_nil]; omega), f82_eq m _ p w hq]
     simp only [bnd_some', hw2]
    have ih := f44_loop m s hs hm K (i + w) (acc ++ [(p : Int)]) (by omega) (by omega) (by simp only [List.length_append, List.length_cons, List.length_nil]; omega)
    rw [ptsB_one hq, List.drop_drop]
    refine ⟨fun L hL => ?_, fun hn => ?_⟩
    ·obtain ⟨L', hL', rfl⟩ := Option.map_eq_some_iff.1 hL
     have := ih.1 L' hL'
     unfold iter
     simp only [e1]
     rw [this]
     simp [castL]
    ·obtain ⟨j, hj⟩ := ih.2 (by simpa using hn)
     refine ⟨j, ?_⟩
     unfold iter
     simp only [e1]
     exact hj
  ·have hi : i = s.size := by omega
   have hd : (bytN s).drop i = [] := List.drop_eq_nil_iff.2 (by rw [bytN_len]; omega)
   rw [hd]
   refine ⟨fun L hL => ?_, fun hn => by cases hn⟩
   rw [ptsB_nil] at hL
   cases hL
   unfold iter
   have e0 : f44_B1 m s acc (i : Int) = some (.brk (acc, (i : Int))) := by
    unfold f44_B1
    rw [decide_eq_false (by omega), cnd_false]
   simp only [e0]
   rw [hi]
   simp [castL]
theorem f44_eq (m : Nat) (s : ByteArray) (hm : 4001 < m) : (∀ L, s.size ≤ 4000 → ptsS s = some L → f44 m s = some (castL L, ⟨0, 0⟩)) ∧ ((¬ s.size ≤ 4000 ∨ ptsS s = none) → ∃ c j, c ≠ 0 ∧ f44 m s = some ([], ⟨c, j⟩)) := by
 by_cases hs : s.size ≤ 4000
 ·have h := f44_loop m s hs (by omega) m 0 [] (by omega) (by omega) (Nat.le_refl _)
  rw [List.drop_zero] at h
  have e0 : f44 m s = brk (iter (fun (y : (List Int) × Int) => f44_B1 m s y.1 y.2) m ([], ((0 : Nat) : Int))) some fun y49 => some ((y49.1, (⟨0, 0⟩ : S26))) := by
   unfold f44
   rw [decide_eq_false (by omega), cnd_false]
   rfl
  refine ⟨fun L _ hL => ?_, fun hn => ?_⟩
  ·rw [e0, h.1 L hL]; simp
  ·rcases hn with hn | hn
   ·exact (hn hs).elim
   ·obtain ⟨j, hj⟩ := h.2 hn
    exact ⟨5, j, by decide, by rw [e0, hj]; rfl⟩
 ·refine ⟨fun L h _ => (hs h).elim, fun _ => ⟨1, -1, by decide, ?_⟩⟩
  unfold f44
  rw [decide_eq_true (by omega)]
  rfl
theorem f20_inner (m : Nat) (p : Nat) (hm : 4001 < m) : iter (fun (y : Int) => f20_B1 m (p : Int) y) m 0 = if badL.all (fun y => !((p : Int) == y)) then some (.inr 10) else some (.inl false) := by
 have e : iter (fun (y : Int) => f20_B1 m (p : Int) y) m 0 = landed (fun (_ : Unit) (i : Int) => i) badL.length (scan (fun _ (_ : Unit) x => if !((p : Int) == x) then some (.inr ()) else some (.inl false)) 0 () badL) := by
  refine iter_scan badL (fun (y : Int) => f20_B1 m (p : Int) y) (fun (_ : Unit) (i : Int) => i) (fun _ (_ : Unit) x => if !((p : Int) == x) then some (.inr ()) else some (.inl false)) (fun u k hi => ?_) m 0 () (by omega) (by show 10 < m + 0; omega)
  have hk : k ≤ 10 := hi
  have hw : w64 ((k : Int) + 1) = (k : Int) + 1 := w64_id ⟨by omega, by omega⟩
  unfold f20_B1
  refine body_turn (xs := badL) rfl fun x hx => ?_
  rw [hw]
  cases (p : Int) == x <;> rfl
 rw [e, scan_all]
 cases badL.all (fun y => !((p : Int) == y)) <;> rfl
theorem f20_loop (m : Nat) (L : List Nat) (f : S26) (hL : L.length ≤ 4000) (hp : ∀ p ∈ L, p ≤ 1114111) (hm : 4001 < m) :
  iter (fun (y : Int) => f20_B2 m (castL L, f) y) m 0 = if L.all (fun p => !badP p) then some (.inr (L.length : Int)) else some (.inl false) := by
 have e : iter (fun (y : Int) => f20_B2 m (castL L, f) y) m 0 = landed (fun (_ : Unit) (i : Int) => i) (castL L).length (scan (fun _ (_ : Unit) x => if !badP x.toNat then some (.inr ()) else some (.inl false)) 0 () (castL L)) := by
  refine iter_scan (castL L) (fun (y : Int) => f20_B2 m (castL L, f) y) (fun (_ : Unit) (i : Int) => i) (fun _ (_ : Unit) x => if !badP x.toNat then some (.inr ()) else some (.inl false)) (fun u k hi => ?_) m 0 () (by omega) (by rw [castL_len]; omega)
  rw [castL_len] at hi
  refine body_turn rfl fun x hx => ?_
  obtain ⟨p, rfl, hmem⟩ := castL_get hx
  have hw : w64 ((k : Int) + 1) = (k : Int) + 1 := w64_id ⟨by omega, by omega⟩
  rw [f20_inner m p hm, badL_all, Int.toNat_natCast, hw]
  unfold badP
  cases [0, 9, 10, 32, 40, 41, 91, 93, 44, 59].contains p
  ·simp only [Bool.not_false, if_true, brk_inr, Bool.false_or]
   by_cases h : 983040 ≤ p
   ·rw [decide_eq_true (by omega : (p : Int) ≥ 983040), decide_eq_true h]; rfl
   ·rw [decide_eq_false (by omega : ¬ (p : Int) ≥ 983040), decide_eq_false h]; rfl
  ·rfl
 rw [e, scan_all, castL_all, castL_len]
 cases L.all (fun p => !badP p) <;> rfl
theorem f20_eq (m : Nat) (s : ByteArray) (hm : 4001 < m) : f20 m s = some (wordS s) := by
 obtain ⟨g1, g2⟩ := f44_eq m s hm
 unfold f20 wordS
 by_cases hs : s.size ≤ 4000
 ·cases hq : ptsS s with
  | some L =>
   have hl := ptsS_len hq
   rw [g1 L hs hq]
   simp only [bnd_some', f20_r4, f20_r3, castL_len, okP, beq_self_eq_true, Bool.true_and, Bool.not_true, Bool.false_or, decide_eq_true hs]
   by_cases hc : 1 ≤ L.length ∧ L.length ≤ 30
   ·have hb : (((L.length : Int) == 0) || decide ((L.length : Int) > 30)) = false := by
     simp only [Bool.or_eq_false_iff, decide_eq_false_iff_not, beq_eq_false_iff_ne, ne_eq]; omega
    rw [hb, cnd_false, f20_loop m L _ (by omega) hl.2.2 hm, decide_eq_true hc]
    cases L.all (fun p => !badP p) <;> rfl
   ·have hb : (((L.length : Int) == 0) || decide ((L.length : Int) > 30)) = true := by
     simp only [Bool.or_eq_true, decide_eq_true_eq, beq_iff_eq]; omega
    rw [hb, decide_eq_false hc]
    rfl
  | none =>
   obtain ⟨c, j, hc, e⟩ := g2 (.inr hq)
   rw [e]
   have hb : (c == 0) = false := by simpa using hc
   simp only [bnd_some', hb, Bool.false_and, Bool.not_false, Bool.true_or, f20_r4, f20_r3, cnd_true, Bool.and_false]
 ·obtain ⟨c, j, hc, e⟩ := g2 (.inl hs)
  rw [e]
  have hb : (c == 0) = false := by simpa using hc
  simp only [bnd_some', hb, Bool.false_and, Bool.not_false, Bool.true_or, f20_r4, f20_r3, cnd_true, decide_eq_false hs]
set_option maxHeartbeats 2000000
abbrev Cnt := Int × Bool
def overC (n d : Int) : Bool := decide (n + 1 > 2000) || decide (d > 40)
def loopC {α : Type} (g : Cnt → α → Cnt) : Cnt → List α → Cnt
 | s, [] => s
 | s, x :: r => if s.2 then s else loopC g (g s x) r
noncomputable def cntS : Nat → Cnt → S51 → Int → Cnt
 | 0, s, _, _ => s
 | r + 1, s, t, d => if overC s.1 d then (s.1 + 1, true) else loopC (fun s x => cntS r s x.vw (d + 1)) (s.1 + 1, false) t.fArgs
def InC (n : Int) (s : Cnt) : Prop := n < s.1 ∧ s.1 ≤ 2001 ∧ (s.2 = false → s.1 ≤ 2000)
theorem InC.le {n k : Int} {s : Cnt} (h : InC k s) (hn : n ≤ k) : InC n s := ⟨by have := h.1; omega, h.2⟩
theorem InC.one {n : Int} (h : n ≤ 2000) : InC n (n + 1, true) := ⟨by show n < n + 1; omega, by show n + 1 ≤ 2001; omega, fun h => by cases h⟩
def Steps {α : Type} (g : Cnt → α → Cnt) : Prop := ∀ n x, 0 ≤ n → n ≤ 2000 → InC n (g (n, false) x)
theorem loopC_over {α : Type} (g : Cnt → α → Cnt) (n : Int) : ∀ l, loopC g (n, true) l = (n, true)
 | [] => rfl
 | x :: r => by simp [loopC]
theorem loopC_steps {α : Type} {g : Cnt → α → Cnt} (hg : Steps g) : ∀ (l : List α) (n : Int), 0 ≤ n → n ≤ 2000 → InC (n - 1) (loopC g (n, false) l)
 | [], n, h0, h1 => ⟨by show n - 1 < n; omega, by show n ≤ 2001; omega, fun _ => h1⟩
 | x :: r, n, h0, h1 => by
  have h := hg n x h0 h1
  have e : loopC g (n, false) (x :: r) = loopC g (g (n, false) x) r := by simp [loopC]
  rw [e]
  generalize g (n, false) x = s at h
  obtain ⟨n', o'⟩ := s
  cases o' with
  | true => rw [loopC_over]; exact h.le (by omega)
  | false =>
   have h3 : n' ≤ 2000 := h.2.2 rfl
   have h4 : n < n' := h.1
   exact (loopC_steps hg r n' (by omega) h3).le (by omega)
theorem loopC_in {α : Type} {g : Cnt → α → Cnt} (hg : Steps g) (l : List α) (s : Cnt) (n : Int) (h0 : 0 ≤ n) (h : InC n s) : InC n (loopC g s l) := by
 obtain ⟨k, o⟩ := s
 have hk : n < k := h.1
 cases o with
 | true => rw [loopC_over]; exact h
 | false => exact (loopC_steps hg l k (by omega) (h.2.2 rfl)).le (by omega)
theorem cntS_in (r : Nat) : ∀ (d : Int) (t : S51) (n : Int), 0 ≤ n → n ≤ 2000 → InC n (cntS (r + 1) (n, false) t d) := by
 induction r with
 | zero =>
  intro d t n h0 h1
  unfold cntS
  split
  ·exact .one h1
  ·rename_i h
   have h : n + 1 ≤ 2000 := by simp [overC] at h; omega
   have hz : ∀ (l : List P51) (s : Cnt), loopC (fun s (x : P51) => cntS 0 s x.vw (d + 1)) s l = s := by
    intro l
    induction l with
    | nil => intro s; rfl
    | cons x r ih =>
     intro s
     simp only [loopC]
     split
     ·rfl
     ·exact ih _
   rw [hz]
   exact ⟨by show n < n + 1; omega, by show n + 1 ≤ 2001; omega, fun _ => h⟩
 | succ r ih =>
  intro d t n h0 h1
  unfold cntS
  split
  ·exact .one h1
  ·rename_i h
   have h : n + 1 ≤ 2000 := by simp [overC] at h; omega
   exact (loopC_steps (fun n x => ih (d + 1) x.vw n) t.fArgs (n + 1) (by omega) h).le (by omega)
theorem cntS_steps (d : Int) (r : Nat) : Steps (fun s (x : P51) => cntS (r + 1) s x.vw d) := fun n x => cntS_in r d x.vw n
theorem loop_parts {α W R A : Type} (xs : List α) (g : Cnt → α → Cnt) (hg : Steps g) (mk : Int → Cnt → W → A) (B : A → Option (Stp R A)) (I : Nat → W → Prop)
  (h1 : ∀ (k : Nat) n w x, xs[k]? = some x → 0 ≤ n → n ≤ 2000 → k ≤ 2001 → I k w → ∃ w', B (mk k (n, false) w) = some (.nxt (mk ((k + 1 : Nat) : Int) (g (n, false) x) w')) ∧ I (k + 1) w')
  (h2 : ∀ (k : Nat) n w, k < xs.length → k ≤ 2001 → ∃ e, B (mk k (n, true) w) = some e ∧ (e = .brk (mk k (n, true) w) ∨ ∃ r, e = .ret r))
  (h3 : ∀ (k : Nat) s w, ¬ k < xs.length → B (mk k s w) = some (.brk (mk k s w))) :
  ∀ (K k : Nat) (n : Int) (w : W), I k w → (k : Int) ≤ n → 0 ≤ n → n ≤ 2000 → 2002 - n < (K : Int) → (∃ (k' : Nat) (w' : W), I k' w' ∧ iter B K (mk k (n, false) w) = some (.inr (mk k' (loopC g (n, false) (xs.drop k)) w'))) ∨ ∃ (k' : Nat) (n' : Int) (w' : W) (r : R), loopC g (n, false) (xs.drop k) = (n', true) ∧ B (mk k' (n', true) w') = some (.ret r) ∧ iter B K (mk k (n, false) w) = some (.inl r)
 | 0, k, n, w, hI, hkn, hn0, hn, hK => by omega
 | K + 1, k, n, w, hI, hkn, hn0, hn, hK => by
  rcases Nat.lt_or_ge k xs.length with hlt | hge
  ·have hx := List.getElem?_eq_getElem hlt
   obtain ⟨w', e, hI'⟩ := h1 k n w _ hx hn0 hn (by omega) hI
   have hs := hg n xs[k] hn0 hn
   have hd : xs.drop k = xs[k] :: xs.drop (k + 1) := List.drop_eq_getElem_cons hlt
   have hl : loopC g (n, false) (xs.drop k) = loopC g (g (n, false) xs[k]) (xs.drop (k + 1)) := by rw [hd]; simp [loopC]
   rw [hl]
   unfold iter
   rw [e]
   dsimp only
   generalize g (n, false) xs[k] = s at hs
   obtain ⟨n', o'⟩ := s
   cases o' with
   | false =>
    have h5 := hs.2.2 rfl
    have h6 : n < n' := hs.1
    exact loop_parts xs g hg mk B I h1 h2 h3 K (k + 1) n' w' hI' (by omega) (by omega) h5 (by omega)
   | true =>
    have h6 : n < n' := hs.1
    have h7 : n' ≤ 2001 := hs.2.1
    obtain ⟨K', rfl⟩ : ∃ q, K = q + 1 := ⟨K - 1, by omega⟩
    rw [loopC_over]
    rcases Nat.lt_or_ge (k + 1) xs.length with hl2 | hl2
    ·obtain ⟨e2, e3, e4⟩ := h2 (k + 1) n' w' hl2 (by omega)
     rcases e4 with rfl | ⟨r, rfl⟩
     ·left
      exact ⟨_, w', hI', by unfold iter; rw [e3]⟩
     ·right
      exact ⟨k + 1, n', w', r, rfl, e3, by unfold iter; rw [e3]⟩
    ·left
     exact ⟨_, w', hI', by unfold iter; rw [h3 (k + 1) (n', true) w' (by omega)]⟩
  ·left
   refine ⟨k, w, hI, ?_⟩
   rw [List.drop_eq_nil_of_le hge]
   unfold iter
   rw [h3 k (n, false) w (by omega)]
   rfl
theorem loop_all {α W R A : Type} (xs : List α) (g : Cnt → α → Cnt) (hg : Steps g) (mk : Int → Cnt → W → A) (B : A → Option (Stp R A)) (I : Nat → W → Prop)
  (h1 : ∀ (k : Nat) n w x, xs[k]? = some x → 0 ≤ n → n ≤ 2000 → k ≤ 2001 → I k w → ∃ w', B (mk k (n, false) w) = some (.nxt (mk ((k + 1 : Nat) : Int) (g (n, false) x) w')) ∧ I (k + 1) w')
  (h2 : ∀ (k : Nat) n w, k < xs.length → k ≤ 2001 → ∃ e, B (mk k (n, true) w) = some e ∧ (e = .brk (mk k (n, true) w) ∨ ∃ r, e = .ret r))
  (h3 : ∀ (k : Nat) s w, ¬ k < xs.length → B (mk k s w) = some (.brk (mk k s w))) (K : Nat) (hK : 2003 ≤ K) (s : Cnt) (w : W) (hI : I 0 w) (h0 : 0 ≤ s.1) (hs : s.2 = false → s.1 ≤ 2000) :
  (∃ (k' : Nat) (w' : W), I k' w' ∧ iter B K (mk 0 s w) = some (.inr (mk k' (loopC g s xs) w'))) ∨ ∃ (k' : Nat) (n' : Int) (w' : W) (r : R), loopC g s xs = (n', true) ∧ B (mk k' (n', true) w') = some (.ret r) ∧ iter B K (mk 0 s w) = some (.inl r) := by
 obtain ⟨n, o⟩ := s
 cases o with
 | false => exact loop_parts xs g hg mk B I h1 h2 h3 K 0 n w hI h0 h0 (hs rfl) (by have : 0 ≤ n := h0; omega)
 | true =>
  obtain ⟨K', rfl⟩ : ∃ q, K = q + 1 := ⟨K - 1, by omega⟩
  rw [loopC_over]
  rcases Nat.lt_or_ge 0 xs.length with hl2 | hl2
  ·obtain ⟨e2, e3, e4⟩ := h2 0 n w hl2 (by omega)
   rcases e4 with rfl | ⟨r, rfl⟩
   ·left
    exact ⟨_, w, hI, by unfold iter; rw [show B (mk 0 (n, true) w) = _ from e3]⟩
   ·right
    exact ⟨0, n, w, r, rfl, e3, by unfold iter; rw [show B (mk 0 (n, true) w) = _ from e3]⟩
  ·left
   exact ⟨_, w, hI, by unfold iter; rw [show B (mk 0 (n, true) w) = _ from h3 0 (n, true) w (by omega)]⟩
theorem idx_of {α : Type} {l : List α} {k : Nat} {x : α} (h : l[k]? = some x) : idx l (k : Int) = some x := by rw [idx_get]; exact h
theorem w64_k {k : Nat} (h : k ≤ 2001) : w64 ((k : Int) + 1) = ((k + 1 : Nat) : Int) := by rw [w64_id ⟨by omega, by omega⟩]; rfl
theorem f46_K (m : Nat) (hm : 2100 ≤ m) : ∀ (r : Nat) (d : Int) (a1 : S51) (n : Int), 1 ≤ d → d ≤ 41 → 42 ≤ d + r → 0 ≤ n → n ≤ 2000 → (K46 m r).r46 ⟨n, false⟩ a1 d = some ((), ⟨(cntS r (n, false) a1 d).1, (cntS r (n, false) a1 d).2⟩)
 | 0, d, a1, n, h1, h2, h3, h4, h5 => by omega
 | r + 1, d, a1, n, h1, h2, h3, h4, h5 => by
  have hw : w64 (n + 1) = n + 1 := w64_id ⟨by omega, by omega⟩
  have hwd : w64 (d + 1) = d + 1 := w64_id ⟨by omega, by omega⟩
  show b46 m (K46 m r) ⟨n, false⟩ a1 d = _
  unfold b46 f46_r3 f46_j2
  simp only [hw]
  have ho : (decide (n + 1 > 2000) || decide (d > 40)) = overC n d := rfl
  rw [ho]
  unfold cntS
  by_cases hov : overC n d = true
  ·rw [hov]
   simp only [cnd_true, if_true]
   obtain ⟨m', rfl⟩ : ∃ q, m = q + 1 := ⟨m - 1, by omega⟩
   unfold iter f46_B1
   rcases Nat.lt_or_ge 0 a1.fArgs.length with hl | hl
   ·have hx := List.getElem?_eq_getElem hl
    have : decide ((0 : Int) < (a1.fArgs.length : Int)) = true := by simpa using hl
    rw [show decide ((((0 : Int), n + 1, true) : Int × Int × Bool).1 < (a1.fArgs.length : Int)) = true from this]
    have hi : idx a1.fArgs 0 = some a1.fArgs[0] := idx_of (k := 0) hx
    simp [hi]
   ·have : decide ((0 : Int) < (a1.fArgs.length : Int)) = false := decide_eq_false (by omega)
    rw [show decide ((((0 : Int), n + 1, true) : Int × Int × Bool).1 < (a1.fArgs.length : Int)) = false from this]
    simp
  ·have hov : overC n d = false := by simpa using hov
   rw [hov]
   have hb : n + 1 ≤ 2000 ∧ d ≤ 40 := by simp [overC] at hov; omega
   obtain ⟨r, rfl⟩ : ∃ q, r = q + 1 := ⟨r - 1, by omega⟩
   simp only [cnd_false, Bool.false_eq_true, if_false]
   have hB : ∀ (k : Nat) (n' : Int) (o : Bool), f46_B1 m (K46 m (r + 1)) a1 d (k : Int) n' o = cnd (decide ((k : Int) < (a1.fArgs.length : Int))) (bnd (idx a1.fArgs (k : Int)) fun v34 => cnd o (some (.ret (((), (⟨n', o⟩ : S81))))) (bnd ((K46 m (r + 1)).r46 ((⟨n', o⟩ : S81)) v34.vw (w64 (d + 1))) fun v35 => some (.nxt (w64 ((k : Int) + 1), v35.2.fNodes, v35.2.fOver)))) (some (.brk ((k : Int), n', o))) := fun _ _ _ => rfl
   have := loop_all (W := Unit) a1.fArgs (fun s x => cntS (r + 1) s x.vw (d + 1)) (cntS_steps (d + 1) r) (fun k s _ => (k, s.1, s.2)) (fun (y : Int × Int × Bool) => f46_B1 m (K46 m (r + 1)) a1 d y.1 y.2.1 y.2.2) (fun _ _ => True)
    (fun k n' w x hx g1 g2 g3 _ => ⟨(), by
     show f46_B1 m (K46 m (r + 1)) a1 d (k : Int) n' false = _
     rw [hB, show decide ((k : Int) < (a1.fArgs.length : Int)) = true by simpa using lt_of_getElem? hx, idx_of hx]
     simp only [cnd_true, bnd_some', cnd_false, hwd, f46_K m hm (r + 1) (d + 1) x.vw n' (by omega) (by omega) (by omega) g1 g2, w64_k g3], trivial⟩)
    (fun k n' w hl g3 => ⟨_, by
     show f46_B1 m (K46 m (r + 1)) a1 d (k : Int) n' true = _
     rw [hB, show decide ((k : Int) < (a1.fArgs.length : Int)) = true by simpa using hl, idx_of (List.getElem?_eq_getElem hl)]
     rfl, .inr ⟨_, rfl⟩⟩)
    (fun k s w hl => by
     show f46_B1 m (K46 m (r + 1)) a1 d (k : Int) s.1 s.2 = _
     rw [hB, show decide ((k : Int) < (a1.fArgs.length : Int)) = false by simpa using hl]
     rfl) m (by omega) (n + 1, false) () trivial (by show 0 ≤ n + 1; omega) (fun _ => hb.1)
   rcases this with ⟨k', w', _, e⟩ | ⟨k', n', w', rr, e1, e2, e3⟩
   ·rw [e]; rfl
   ·rw [e3]
    have e2 : f46_B1 m (K46 m (r + 1)) a1 d (k' : Int) n' true = some (.ret rr) := e2
    rw [hB] at e2
    have : rr = ((), ⟨n', true⟩) := by
     by_cases hl : k' < a1.fArgs.length
     ·rw [show decide ((k' : Int) < (a1.fArgs.length : Int)) = true by simpa using hl, idx_of (List.getElem?_eq_getElem hl)] at e2
      simp only [cnd_true, bnd_some', Option.some.injEq, Stp.ret.injEq] at e2
      exact e2.symm
     ·rw [show decide ((k' : Int) < (a1.fArgs.length : Int)) = false by simpa using hl] at e2
      simp only [cnd_false, Option.some.injEq] at e2
      cases e2
    rw [this]
    have e1' : loopC (fun s (x : P51) => cntS (r + 1) s x.vw (d + 1)) ((n, false).1 + 1, false) a1.fArgs = (n', true) := e1
    rw [e1']
    rfl
theorem f42_eq (m : Nat) (b : ByteArray) (n d : Int) (h0 : 0 ≤ n) (h1 : n ≤ 2000) : f42 m ⟨b, n, false⟩ d = some (!overC n d, ⟨b, n + 1, overC n d⟩) := by
 have hw : w64 (n + 1) = n + 1 := w64_id ⟨by omega, by omega⟩
 unfold f42 f42_r2 f42_j1
 simp only [hw]
 have ho : (decide (n + 1 > 2000) || decide (d > 40)) = overC n d := rfl
 rw [ho]
 cases overC n d <;> rfl
theorem app_1 {α : Type} {b : Nat} {xs : List α} {x : α} (hb : b ≤ 1000) (h : xs.length ≤ 3000) : app b xs [x] = some (xs ++ [x]) := by
 unfold app
 rw [if_pos]
 refine ⟨?_, ?_⟩
 ·have : (xs.length + [x].length) * b ≤ 3001 * 1000 := Nat.mul_le_mul (by simp; omega) hb
  omega
 ·unfold maxLen; simp; omega
theorem f43_K (m : Nat) (hm : 2100 ≤ m) : ∀ (r : Nat) (d : Int) (a1 : S51) (b : ByteArray) (n : Int), 1 ≤ d → d ≤ 41 → 42 ≤ d + r → 0 ≤ n → n ≤ 2000 → ∃ v, (K43 m r).r43 ⟨b, n, false⟩ a1 d = some (v, ⟨b, (cntS r (n, false) a1 d).1, (cntS r (n, false) a1 d).2⟩)
 | 0, d, a1, b, n, h1, h2, h3, h4, h5 => by omega
 | r + 1, d, a1, b, n, h1, h2, h3, h4, h5 => by
  have hwd : w64 (d + 1) = d + 1 := w64_id ⟨by omega, by omega⟩
  show ∃ v, b43 m (K43 m r) ⟨b, n, false⟩ a1 d = _
  unfold b43
  rw [f42_eq m b n d h4 h5]
  simp only [bnd_some']
  unfold cntS
  by_cases hov : overC n d = true
  ·rw [hov]
   simp only [Bool.not_true, Bool.not_false, cnd_true, if_true]
   exact ⟨_, rfl⟩
  ·have hov : overC n d = false := by simpa using hov
   rw [hov]
   have hb : n + 1 ≤ 2000 ∧ d ≤ 40 := by simp [overC] at hov; omega
   obtain ⟨r, rfl⟩ : ∃ q, r = q + 1 := ⟨r - 1, by omega⟩
   simp only [Bool.not_true, Bool.not_false, cnd_false, Bool.false_eq_true, if_false]
   have hB : ∀ (k : Nat) (w : ByteArray) (n' : Int) (o : Bool) (l : List P51), f43_B1 m (K43 m (r + 1)) a1 d (k : Int) w n' o l = cnd (decide ((k : Int) < (a1.fArgs.length : Int))) (bnd (idx a1.fArgs (k : Int)) fun v27 => cnd o (some (.brk ((k : Int), w, n', o, l))) (bnd ((K43 m (r + 1)).r43 ((⟨w, n', o⟩ : S75)) v27.vw (w64 (d + 1))) fun v28 => bnd (app 40 l ([(P51.con v28.1)])) fun v29 => some (.nxt (w64 ((k : Int) + 1), v28.2.fBase, v28.2.fNodes, v28.2.fOver, v29)))) (some (.brk ((k : Int), w, n', o, l))) := fun _ _ _ _ _ => rfl
   have := loop_all (W := ByteArray × List P51) (R := S51 × S75) a1.fArgs (fun s x => cntS (r + 1) s x.vw (d + 1)) (cntS_steps (d + 1) r) (fun k s w => (k, w.1, s.1, s.2, w.2)) (fun (y : Int × ByteArray × Int × Bool × List P51) => f43_B1 m (K43 m (r + 1)) a1 d y.1 y.2.1 y.2.2.1 y.2.2.2.1 y.2.2.2.2) (fun k w => w.1 = b ∧ w.2.length = k)
    (fun k n' w x hx g1 g2 g3 hI => by
     obtain ⟨v, hv⟩ := f43_K m hm (r + 1) (d + 1) x.vw w.1 n' (by omega) (by omega) (by omega) g1 g2
     refine ⟨(w.1, w.2 ++ [P51.con v]), ?_, hI.1, by rw [List.length_append, hI.2]; rfl⟩
     show f43_B1 m (K43 m (r + 1)) a1 d (k : Int) w.1 n' false w.2 = _
     rw [hB, show decide ((k : Int) < (a1.fArgs.length : Int)) = true by simpa using lt_of_getElem? hx, idx_of hx]
     simp only [cnd_true, bnd_some', cnd_false, hwd, hv, app_1 (show 40 ≤ 1000 by decide) (show w.2.length ≤ 3000 by rw [hI.2]; omega), w64_k g3])
    (fun k n' w hl g3 => ⟨_, by
     show f43_B1 m (K43 m (r + 1)) a1 d (k : Int) w.1 n' true w.2 = _
     rw [hB, show decide ((k : Int) < (a1.fArgs.length : Int)) = true by simpa using hl, idx_of (List.getElem?_eq_getElem hl)]
     rfl, .inl rfl⟩)
    (fun k s w hl => by
     show f43_B1 m (K43 m (r + 1)) a1 d (k : Int) w.1 s.1 s.2 w.2 = _
     rw [hB, show decide ((k : Int) < (a1.fArgs.length : Int)) = false by simpa using hl]
     rfl) m (by omega) (n + 1, false) (b, []) ⟨rfl, rfl⟩ (by show 0 ≤ n + 1; omega) (fun _ => hb.1)
   rcases this with ⟨k', w', hI, e⟩ | ⟨k', n', w', rr, e1, e2, e3⟩
   ·refine ⟨⟨a1.fBase, w'.2⟩, ?_⟩
    rw [e, ← hI.1]
    rfl
   ·have e2 : f43_B1 m (K43 m (r + 1)) a1 d (k' : Int) w'.1 n' true w'.2 = some (.ret rr) := e2
    rw [hB] at e2
    by_cases hl : k' < a1.fArgs.length
    ·rw [show decide ((k' : Int) < (a1.fArgs.length : Int)) = true by simpa using hl, idx_of (List.getElem?_eq_getElem hl)] at e2
     simp only [cnd_true, bnd_some', Option.some.injEq] at e2
     cases e2
    ·rw [show decide ((k' : Int) < (a1.fArgs.length : Int)) = false by simpa using hl] at e2
     simp only [cnd_false, Option.some.injEq] at e2
     cases e2
set_option maxHeartbeats 2000000
noncomputable def cntT (m : Nat) : Nat → Cnt → S54 → Int → Cnt
 | 0, s, _, _ => s
 | r + 1, s, t, d => if overC s.1 d then (s.1 + 1, true) else loopC (fun s x => cntT m r s x.vw (d + 1)) (cntS m (s.1 + 1, false) t.fType d) t.fArgs
theorem cntT_in (m : Nat) (r : Nat) : ∀ (d : Int) (t : S54) (n : Int), 0 ≤ n → n ≤ 2000 → InC n (cntT (m + 1) (r + 1) (n, false) t d) := by
 induction r with
 | zero =>
  intro d t n h0 h1
  unfold cntT
  split
  ·exact .one h1
  ·rename_i h
   have h : n + 1 ≤ 2000 := by simp [overC] at h; omega
   have hz : ∀ (l : List P54) (s : Cnt), loopC (fun s (x : P54) => cntT (m + 1) 0 s x.vw (d + 1)) s l = s := by
    intro l
    induction l with
    | nil => intro s; rfl
    | cons x r ih =>
     intro s
     simp only [loopC]
     split
     ·rfl
     ·exact ih _
   rw [hz]
   exact (cntS_in m d t.fType (n + 1) (by omega) h).le (by omega)
 | succ r ih =>
  intro d t n h0 h1
  unfold cntT
  split
  ·exact .one h1
  ·rename_i h
   have h : n + 1 ≤ 2000 := by simp [overC] at h; omega
   exact loopC_in (fun n x => ih (d + 1) x.vw n) t.fArgs _ n h0 ((cntS_in m d t.fType (n + 1) (by omega) h).le (by omega))
theorem cntT_steps (m : Nat) (d : Int) (r : Nat) : Steps (fun s (x : P54) => cntT (m + 1) (r + 1) s x.vw d) := fun n x => cntT_in m r d x.vw n
theorem f46_eq (m : Nat) (hm : 2100 ≤ m) (d : Int) (a1 : S51) (n : Int) (h1 : 1 ≤ d) (h2 : d ≤ 41) (h4 : 0 ≤ n) (h5 : n ≤ 2000) : f46 m ⟨n, false⟩ a1 d = some ((), ⟨(cntS m (n, false) a1 d).1, (cntS m (n, false) a1 d).2⟩) :=
 f46_K m hm m d a1 n h1 h2 (by omega) h4 h5
theorem f43_eq (m : Nat) (hm : 2100 ≤ m) (d : Int) (a1 : S51) (b : ByteArray) (n : Int) (h1 : 1 ≤ d) (h2 : d ≤ 41) (h4 : 0 ≤ n) (h5 : n ≤ 2000) : ∃ v, f43 m ⟨b, n, false⟩ a1 d = some (v, ⟨b, (cntS m (n, false) a1 d).1, (cntS m (n, false) a1 d).2⟩) :=
 f43_K m hm m d a1 b n h1 h2 (by omega) h4 h5
theorem f23_K (m : Nat) (hm : 2100 ≤ m) : ∀ (r : Nat) (d : Int) (a1 : S54) (n : Int), 1 ≤ d → d ≤ 41 → 42 ≤ d + r → 0 ≤ n → n ≤ 2000 → (K23 m r).r23 ⟨n, false⟩ a1 d = some ((), ⟨(cntT m r (n, false) a1 d).1, (cntT m r (n, false) a1 d).2⟩)
 | 0, d, a1, n, h1, h2, h3, h4, h5 => by omega
 | r + 1, d, a1, n, h1, h2, h3, h4, h5 => by
  have hw : w64 (n + 1) = n + 1 := w64_id ⟨by omega, by omega⟩
  have hwd : w64 (d + 1) = d + 1 := w64_id ⟨by omega, by omega⟩
  show b23 m (K23 m r) ⟨n, false⟩ a1 d = _
  unfold b23 f23_r2
  simp only [hw]
  have ho : (decide (n + 1 > 2000) || decide (d > 40)) = overC n d := rfl
  rw [ho]
  unfold cntT
  by_cases hov : overC n d = true
  ·rw [hov]; rfl
  ·have hov : overC n d = false := by simpa using hov
   rw [hov]
   have hb : n + 1 ≤ 2000 ∧ d ≤ 40 := by simp [overC] at hov; omega
   obtain ⟨r, rfl⟩ : ∃ q, r = q + 1 := ⟨r - 1, by omega⟩
   simp only [cnd_false, Bool.false_eq_true, if_false]
   rw [f46_eq m hm d a1.fType (n + 1) h1 (by omega) (by omega) hb.1]
   simp only [bnd_some']
   obtain ⟨m', hm'⟩ : ∃ q, m = q + 1 := ⟨m - 1, by omega⟩
   have hin : InC (n + 1) (cntS m (n + 1, false) a1.fType d) := by rw [hm']; exact cntS_in m' d a1.fType (n + 1) (by omega) hb.1
   generalize cntS m (n + 1, false) a1.fType d = s0 at hin
   have hB : ∀ (k : Nat) (n' : Int) (o : Bool), f23_B1 m (K23 m (r + 1)) a1 d (k : Int) n' o = cnd (decide ((k : Int) < (a1.fArgs.length : Int))) (bnd (idx a1.fArgs (k : Int)) fun v34 => cnd o (some (.ret (((), (⟨n', o⟩ : S81))))) (bnd ((K23 m (r + 1)).r23 ((⟨n', o⟩ : S81)) v34.vw (w64 (d + 1))) fun v35 => some (.nxt (w64 ((k : Int) + 1), v35.2.fNodes, v35.2.fOver)))) (some (.brk ((k : Int), n', o))) := fun _ _ _ => rfl
   have := loop_all (W := Unit) a1.fArgs (fun s x => cntT m (r + 1) s x.vw (d + 1)) (by rw [hm']; exact cntT_steps m' (d + 1) r) (fun k s _ => (k, s.1, s.2)) (fun (y : Int × Int × Bool) => f23_B1 m (K23 m (r + 1)) a1 d y.1 y.2.1 y.2.2) (fun _ _ => True)
    (fun k n' w x hx g1 g2 g3 _ => ⟨(), by
     show f23_B1 m (K23 m (r + 1)) a1 d (k : Int) n' false = _
     rw [hB, show decide ((k : Int) < (a1.fArgs.length : Int)) = true by simpa using lt_of_getElem? hx, idx_of hx]
     simp only [cnd_true, bnd_some', cnd_false, hwd, f23_K m hm (r + 1) (d + 1) x.vw n' (by omega) (by omega) (by omega) g1 g2, w64_k g3], trivial⟩)
    (fun k n' w hl g3 => ⟨_, by
     show f23_B1 m (K23 m (r + 1)) a1 d (k : Int) n' true = _
     rw [hB, show decide ((k : Int) < (a1.fArgs.length : Int)) = true by simpa using hl, idx_of (List.getElem?_eq_getElem hl)]
     rfl, .inr ⟨_, rfl⟩⟩)
    (fun k s w hl => by
     show f23_B1 m (K23 m (r + 1)) a1 d (k : Int) s.1 s.2 = _
     rw [hB, show decide ((k : Int) < (a1.fArgs.length : Int)) = false by simpa using hl]
     rfl) m (by omega) s0 () trivial (by have := hin.1; omega) hin.2.2
   rcases this with ⟨k', w', _, e⟩ | ⟨k', n', w', rr, e1, e2, e3⟩
   ·rw [e]; rfl
   ·rw [e3]
    have e2 : f23_B1 m (K23 m (r + 1)) a1 d (k' : Int) n' true = some (.ret rr) := e2
    rw [hB] at e2
    have : rr = ((), ⟨n', true⟩) := by
     by_cases hl : k' < a1.fArgs.length
     ·rw [show decide ((k' : Int) < (a1.fArgs.length : Int)) = true by simpa using hl, idx_of (List.getElem?_eq_getElem hl)] at e2
      simp only [cnd_true, bnd_some', Option.some.injEq, Stp.ret.injEq] at e2
      exact e2.symm
     ·rw [show decide ((k' : Int) < (a1.fArgs.length : Int)) = false by simpa using hl] at e2
      simp only [cnd_false, Option.some.injEq] at e2
      cases e2
    rw [this, e1]
    rfl
theorem f19_K (m : Nat) (hm : 2100 ≤ m) : ∀ (r : Nat) (d : Int) (a1 : S54) (b : ByteArray) (n : Int), 1 ≤ d → d ≤ 41 → 42 ≤ d + r → 0 ≤ n → n ≤ 2000 → ∃ v, (K19 m r).r19 ⟨b, n, false⟩ a1 d = some (v, ⟨b, (cntT m r (n, false) a1 d).1, (cntT m r (n, false) a1 d).2⟩)
 | 0, d, a1, b, n, h1, h2, h3, h4, h5 => by omega
 | r + 1, d, a1, b, n, h1, h2, h3, h4, h5 => by
  have hwd : w64 (d + 1) = d + 1 := w64_id ⟨by omega, by omega⟩
  show ∃ v, b19 m (K19 m r) ⟨b, n, false⟩ a1 d = _
  unfold b19 f19_r3
  have key : ∀ nm : ByteArray, ∃ v, f19_j2 m (K19 m r) ⟨b, n, false⟩ a1 d nm = some (v, ⟨b, (cntT m (r + 1) (n, false) a1 d).1, (cntT m (r + 1) (n, false) a1 d).2⟩) := by
   intro nm
   unfold f19_j2
   rw [f42_eq m b n d h4 h5]
   simp only [bnd_some']
   unfold cntT
   by_cases hov : overC n d = true
   ·rw [hov]
    exact ⟨_, rfl⟩
   ·have hov : overC n d = false := by simpa using hov
    rw [hov]
    have hb : n + 1 ≤ 2000 ∧ d ≤ 40 := by simp [overC] at hov; omega
    obtain ⟨r, rfl⟩ : ∃ q, r = q + 1 := ⟨r - 1, by omega⟩
    simp only [Bool.not_true, Bool.not_false, cnd_false, Bool.false_eq_true, if_false]
    obtain ⟨v0, hv0⟩ := f43_eq m hm d a1.fType b (n + 1) h1 (by omega) (by omega) hb.1
    rw [hv0]
    simp only [bnd_some']
    obtain ⟨m', hm'⟩ : ∃ q, m = q + 1 := ⟨m - 1, by omega⟩
    have hin : InC (n + 1) (cntS m (n + 1, false) a1.fType d) := by rw [hm']; exact cntS_in m' d a1.fType (n + 1) (by omega) hb.1
    generalize cntS m (n + 1, false) a1.fType d = s0 at hin
    have hB : ∀ (k : Nat) (w : ByteArray) (n' : Int) (o : Bool) (l : List P54), f19_B1 m (K19 m (r + 1)) a1 d (k : Int) w n' o l = cnd (decide ((k : Int) < (a1.fArgs.length : Int))) (bnd (idx a1.fArgs (k : Int)) fun v27 => cnd o (some (.brk ((k : Int), w, n', o, l))) (bnd ((K19 m (r + 1)).r19 ((⟨w, n', o⟩ : S75)) v27.vw (w64 (d + 1))) fun v28 => bnd (app 96 l ([(P54.con v28.1)])) fun v29 => some (.nxt (w64 ((k : Int) + 1), v28.2.fBase, v28.2.fNodes, v28.2.fOver, v29)))) (some (.brk ((k : Int), w, n', o, l))) := fun _ _ _ _ _ => rfl
    have := loop_all (W := ByteArray × List P54) (R := S54 × S75) a1.fArgs (fun s x => cntT m (r + 1) s x.vw (d + 1)) (by rw [hm']; exact cntT_steps m' (d + 1) r) (fun k s w => (k, w.1, s.1, s.2, w.2)) (fun (y : Int × ByteArray × Int × Bool × List P54) => f19_B1 m (K19 m (r + 1)) a1 d y.1 y.2.1 y.2.2.1 y.2.2.2.1 y.2.2.2.2) (fun k w => w.1 = b ∧ w.2.length = k)
     (fun k n' w x hx g1 g2 g3 hI => by
      obtain ⟨v, hv⟩ := f19_K m hm (r + 1) (d + 1) x.vw w.1 n' (by omega) (by omega) (by omega) g1 g2
      refine ⟨(w.1, w.2 ++ [P54.con v]), ?_, hI.1, by rw [List.length_append, hI.2]; rfl⟩
      show f19_B1 m (K19 m (r + 1)) a1 d (k : Int) w.1 n' false w.2 = _
      rw [hB, show decide ((k : Int) < (a1.fArgs.length : Int)) = true by simpa using lt_of_getElem? hx, idx_of hx]
      simp only [cnd_true, bnd_some', cnd_false, hwd, hv, app_1 (show 96 ≤ 1000 by decide) (show w.2.length ≤ 3000 by rw [hI.2]; omega), w64_k g3])
     (fun k n' w hl g3 => ⟨_, by
      show f19_B1 m (K19 m (r + 1)) a1 d (k : Int) w.1 n' true w.2 = _
      rw [hB, show decide ((k : Int) < (a1.fArgs.length : Int)) = true by simpa using hl, idx_of (List.getElem?_eq_getElem hl)]
      rfl, .inl rfl⟩)
     (fun k s w hl => by
      show f19_B1 m (K19 m (r + 1)) a1 d (k : Int) w.1 s.1 s.2 w.2 = _
      rw [hB, show decide ((k : Int) < (a1.fArgs.length : Int)) = false by simpa using hl]
      rfl) m (by omega) s0 (b, []) ⟨rfl, rfl⟩ (by have := hin.1; omega) hin.2.2
    rcases this with ⟨k', w', hI, e⟩ | ⟨k', n', w', rr, e1, e2, e3⟩
    ·refine ⟨⟨a1.fKind, nm, a1.fIndex, v0, w'.2⟩, ?_⟩
     rw [e, ← hI.1]
     rfl
    ·have e2 : f19_B1 m (K19 m (r + 1)) a1 d (k' : Int) w'.1 n' true w'.2 = some (.ret rr) := e2
     rw [hB] at e2
     by_cases hl : k' < a1.fArgs.length
     ·rw [show decide ((k' : Int) < (a1.fArgs.length : Int)) = true by simpa using hl, idx_of (List.getElem?_eq_getElem hl)] at e2
      simp only [cnd_true, bnd_some', Option.some.injEq] at e2
      cases e2
     ·rw [show decide ((k' : Int) < (a1.fArgs.length : Int)) = false by simpa using hl] at e2
      simp only [cnd_false, Option.some.injEq] at e2
      cases e2
  cases ((a1.fKind == 1) && (a1.fName.toList == (⟨#[42]⟩ : ByteArray).toList)) with
  | true => exact key b
  | false => exact key a1.fName
set_option maxHeartbeats 2000000
def accA : Nat → List Int → List S134
 | _, [] => []
 | k, x :: r => ⟨(k : Int), ((k + 1 : Nat) : Int), x, x, 0⟩ :: accA (k + 1) r
theorem accA_len : ∀ (l : List Int) (k : Nat), (accA k l).length = l.length
 | [], _ => rfl
 | x :: r, k => by simp [accA, accA_len r (k + 1)]
theorem accA_get : ∀ (l : List Int) (k i : Nat), (accA k l)[i]? = (l[i]?).map fun c => (⟨((k + i : Nat) : Int), ((k + i + 1 : Nat) : Int), c, c, 0⟩ : S134)
 | [], k, i => by simp [accA]
 | x :: r, k, 0 => rfl
 | x :: r, k, i + 1 => by
  have := accA_get r (k + 1) i
  simp only [accA, List.getElem?_cons_succ, this]
  rw [show k + 1 + i = k + (i + 1) by omega]
abbrev accM (l : List Int) : S32 := ⟨((l.length + 1 : Nat) : Int), accA 0 l, [⟨(l.length : Int), 0⟩]⟩
theorem f34_loop (m : Nat) (l : List Int) (hl : l.length ≤ 30) : ∀ (r : List Int) (k : Nat) (acc : List S134) (K : Nat), l.drop k = r → k ≤ l.length → acc.length = k → r.length < K → iter (fun (y : Int × List S134) => f34_B1 m l y.1 y.2) K ((k : Int), acc) = some (.inr ((l.length : Int), acc ++ accA k r))
 | [], k, acc, 0, h1, h0, h2, h3 => by simp at h3
 | [], k, acc, K + 1, h1, h0, h2, h3 => by
  have hk : l.length ≤ k := by simpa using h1
  have hk : k = l.length := by omega
  subst hk
  unfold iter f34_B1
  rw [show decide (((l.length : Int), acc).1 < (l.length : Int)) = false from decide_eq_false (by show ¬ (l.length : Int) < l.length; omega)]
  simp [accA]
 | x :: r, k, acc, 0, h1, h0, h2, h3 => by simp at h3
 | x :: r, k, acc, K + 1, h1, h0, h2, h3 => by
  have hlt : k < l.length := by
   rcases Nat.lt_or_ge k l.length with h | h
   ·exact h
   ·rw [List.drop_eq_nil_of_le h] at h1; cases h1
  have hx : l[k]? = some x := by
   have := List.drop_eq_getElem_cons hlt
   rw [h1] at this
   rw [List.getElem?_eq_getElem hlt, (List.cons.inj this).1]
  have hr : l.drop (k + 1) = r := by
   have := List.drop_eq_getElem_cons hlt
   rw [h1] at this
   exact (List.cons.inj this).2.symm
  unfold iter
  have hB : f34_B1 m l (((k : Int), acc).1) (((k : Int), acc).2) = cnd (decide ((k : Int) < (l.length : Int))) (bnd (idx l (k : Int)) fun v18 => bnd (app 40 acc ([(⟨(k : Int), w64 ((k : Int) + 1), v18, v18, 0⟩ : S134)])) fun v19 => some (.nxt (w64 ((k : Int) + 1), v19))) (some (.brk ((k : Int), acc))) := rfl
  rw [hB, show decide ((k : Int) < (l.length : Int)) = true from decide_eq_true (by omega)]
  have hw : w64 ((k : Int) + 1) = ((k + 1 : Nat) : Int) := by rw [w64_id ⟨by omega, by omega⟩]; rfl
  have hi : idx l (k : Int) = some x := idx_of hx
  rw [hi]
  simp only [cnd_true, bnd_some', hw, app_1 (show 40 ≤ 1000 by decide) (show acc.length ≤ 3000 by omega)]
  rw [f34_loop m l hl r (k + 1) (acc ++ [(⟨(k : Int), ((k + 1 : Nat) : Int), x, x, 0⟩ : S134)]) K hr hlt (by simp [h2]) (by simp at h3; omega)]
  simp [accA]
theorem f34_eq (m : Nat) (l : List Int) (hl : l.length ≤ 30) (hm : 31 < m) : f34 m l = some (accM l) := by
 unfold f34
 have := f34_loop m l hl l 0 [] m rfl (Nat.zero_le _) rfl (by omega)
 have this : iter (fun (y : Int × List S134) => f34_B1 m l y.1 y.2) m (0, []) = some (.inr ((l.length : Int), accA 0 l)) := this
 rw [this]
 have hw : w64 ((l.length : Int) + 1) = ((l.length + 1 : Nat) : Int) := by rw [w64_id ⟨by omega, by omega⟩]; rfl
 simp only [brk_inr, hw]
theorem f77_lt (m : Nat) (x y : Int) (h : x < y) : f77 m x y = some (-1) := by
 have h2 : ∀ z : Int, f128 m z = some false := fun z => by unfold f128; simp
 unfold f77
 simp [h2, h]
theorem f77_some (m : Nat) (x y : Int) : ∃ c, f77 m x y = some c := by
 have h2 : ∀ z : Int, f128 m z = some false := fun z => by unfold f128; simp
 unfold f77
 simp only [h2, bnd_some', cnd_false]
 by_cases h1 : x < y
 ·rw [decide_eq_true h1]; exact ⟨_, rfl⟩
 ·rw [decide_eq_false h1]
  by_cases h3 : x > y
  ·rw [cnd_false, decide_eq_true h3]; exact ⟨_, rfl⟩
  ·rw [cnd_false, decide_eq_false h3]; exact ⟨_, rfl⟩
theorem f59_lt (m : Nat) (hm : 1 ≤ m) (a b : S134) (h : a.fFrom < b.fFrom) : f59 m a b = some (-1) := by
 obtain ⟨m', rfl⟩ : ∃ q, m = q + 1 := ⟨m - 1, by omega⟩
 obtain ⟨c2, h2⟩ := f77_some (m' + 1) a.fIn b.fIn
 obtain ⟨c3, h3⟩ := f77_some (m' + 1) a.fOut b.fOut
 obtain ⟨c4, h4⟩ := f77_some (m' + 1) a.fTo b.fTo
 obtain ⟨c5, h5⟩ := f77_some (m' + 1) a.fWeight b.fWeight
 unfold f59
 rw [f77_lt _ _ _ h, h2, h3, h4, h5]
 simp only [bnd_some']
 unfold f76 iter f76_B1
 simp [idx]
theorem f99_eq (m : Nat) (x a b : Int) : f99 m x a b = some (decide (a ≤ x) && decide (x ≤ b)) := rfl
theorem f61_acc (m : Nat) (l : List Int) (hl : l.length ≤ 30) (h1 : ∀ x ∈ l, 1 ≤ x ∧ x < 983040) (hm : 40 < m) : f61 m (accM l) = some ⟨0, 0⟩ := by
 unfold f61
 have e1 : (decide ((0 : Int) ≤ (accM l).fStates) && decide ((accM l).fStates ≤ 400)) = true := by
  show (decide ((0 : Int) ≤ ((l.length + 1 : Nat) : Int)) && decide (((l.length + 1 : Nat) : Int) ≤ 400)) = true
  simp only [Bool.and_eq_true, decide_eq_true_eq]
  omega
 have hlen : (accM l).fArcs.length = l.length := accA_len l 0
 rw [f99_eq, e1]
 simp only [bnd_some', Bool.not_true, cnd_false]
 rw [show decide (((accM l).fArcs.length : Int) > 2000) = false from decide_eq_false (by rw [hlen]; omega), cnd_false]
 have ws : w64 ((accM l).fStates - 1) = (l.length : Int) := by
  show w64 (((l.length + 1 : Nat) : Int) - 1) = _
  rw [w64_id ⟨by omega, by omega⟩]; omega
 have e : iter (fun (y : Int) => f61_B6 m (accM l) y) m 0 = landed (fun (_ : Unit) (i : Int) => i) (accM l).fArcs.length (scan (fun _ (_ : Unit) (x : S134) => (some (.inr ()) : Option (S26 ⊕ Unit))) 0 () (accM l).fArcs) := by
  refine iter_scan (accM l).fArcs (fun (y : Int) => f61_B6 m (accM l) y) (fun (_ : Unit) (i : Int) => i) _ (fun u k hk => ?_) m 0 () (Nat.zero_le _) (by rw [hlen]; omega)
  unfold f61_B6
  refine body_turn rfl fun x hx => ?_
  have hkl : k < l.length := by rw [← hlen]; exact lt_of_getElem? hx
  have hg := accA_get l 0 k
  rw [Nat.zero_add] at hg
  have hx' : (accA 0 l)[k]? = some x := hx
  rw [hx', List.getElem?_eq_getElem hkl] at hg
  have hb := h1 _ (List.getElem_mem hkl)
  have hg := Option.some.inj hg
  have hfa : ∀ y a b, f99 m y a b = some (decide (a ≤ y) && decide (y ≤ b)) := fun y a b => rfl
  have t1 : (decide ((0 : Int) ≤ x.fFrom) && decide (x.fFrom ≤ (l.length : Int))) = true := by rw [hg]; simp only [Bool.and_eq_true, decide_eq_true_eq]; omega
  have t2 : (decide ((0 : Int) ≤ x.fTo) && decide (x.fTo ≤ (l.length : Int))) = true := by rw [hg]; simp only [Bool.and_eq_true, decide_eq_true_eq]; omega
  have t3 : (decide ((0 : Int) ≤ x.fIn) && decide (x.fIn ≤ 1114111)) = true := by rw [hg]; simp only [Bool.and_eq_true, decide_eq_true_eq]; omega
  have t4 : (decide ((0 : Int) ≤ x.fOut) && decide (x.fOut ≤ 1114111)) = true := by rw [hg]; simp only [Bool.and_eq_true, decide_eq_true_eq]; omega
  have t5 : (decide ((0 : Int) ≤ x.fWeight) && decide (x.fWeight ≤ 1000000)) = true := by rw [hg]; rfl
  rw [ws]
  simp only [hfa, t1, t2, t3, t4, t5, bnd_some', Bool.not_true, cnd_false, f61_r5, f61_r4, f61_r3, f61_r2]
  have hw : w64 ((k : Int) + 1) = (k : Int) + 1 := w64_id ⟨by omega, by omega⟩
  by_cases hk0 : k = 0
  ·subst hk0
   rw [show decide (((0 : Nat) : Int) > 0) = false from rfl]
   simp only [cnd_false, bnd_some', f61_r1, hw]
  ·rw [show decide ((k : Int) > 0) = true from decide_eq_true (by omega)]
   have hp : (accM l).fArcs[k - 1]? = some (⟨((k - 1 : Nat) : Int), ((k - 1 + 1 : Nat) : Int), l[k - 1], l[k - 1], 0⟩ : S134) := by
    have := accA_get l 0 (k - 1)
    rw [Nat.zero_add, List.getElem?_eq_getElem (show k - 1 < l.length by omega)] at this
    exact this
   have hwm : w64 ((k : Int) - 1) = ((k - 1 : Nat) : Int) := by rw [w64_id ⟨by omega, by omega⟩]; omega
   rw [hwm, idx_of hp]
   simp only [cnd_true, bnd_some']
   rw [f59_lt m (by omega) _ x (by rw [hg]; show ((k - 1 : Nat) : Int) < (k : Int); omega)]
   simp only [bnd_some', f61_r1, hw]
   rfl
 have hs : ∀ (xs : List S134) (i : Int), scan (fun _ (_ : Unit) (x : S134) => (some (.inr ()) : Option (S26 ⊕ Unit))) i () xs = some (.inr ()) := by
  intro xs
  induction xs with
  | nil => intro i; rfl
  | cons x r ih => intro i; exact ih (i + 1)
 rw [e, hs]
 simp only [landed, brk_inr]
 have e9 : iter (fun (y : Int) => f61_B9 m (accM l) y) m 0 = landed (fun (_ : Unit) (i : Int) => i) (accM l).fFinals.length (scan (fun _ (_ : Unit) (x : S136) => (some (.inr ()) : Option (S26 ⊕ Unit))) 0 () (accM l).fFinals) := by
  refine iter_scan (accM l).fFinals (fun (y : Int) => f61_B9 m (accM l) y) (fun (_ : Unit) (i : Int) => i) _ (fun u k hk => ?_) m 0 () (Nat.zero_le _) (by show 1 < m + 0; omega)
  unfold f61_B9
  refine body_turn rfl fun x hx => ?_
  have hk0 : k = 0 := by
   have := lt_of_getElem? hx
   have h1 : (accM l).fFinals.length = 1 := rfl
   omega
  subst hk0
  have hx : x = ⟨(l.length : Int), 0⟩ := by cases hx; rfl
  subst hx
  have u1 : (decide ((0 : Int) ≤ (l.length : Int)) && decide ((l.length : Int) ≤ (l.length : Int))) = true := by simp only [Bool.and_eq_true, decide_eq_true_eq]; omega
  rw [ws]
  simp only [f99_eq, u1, bnd_some', Bool.not_true, cnd_false, f61_r8, f61_r7]
  rfl
 rw [e9]
 rfl
def zM : S32 := ⟨0, [], []⟩
theorem f61_zero (m : Nat) (hm : 1 ≤ m) : f61 m zM = some ⟨0, 0⟩ := by
 obtain ⟨m', rfl⟩ : ∃ q, m = q + 1 := ⟨m - 1, by omega⟩
 rfl
theorem f28_acc (m : Nat) (l : List Int) (hl : l.length ≤ 30) (h1 : ∀ x ∈ l, 1 ≤ x ∧ x < 983040) (hm : 40 < m) : f28 m zM (accM l) = some (zM, ⟨0, 0⟩) := by
 unfold f28
 rw [f61_zero m (by omega), f61_acc m l hl h1 hm]
 rfl
theorem f35_zero (m : Nat) (hm : 1 ≤ m) : f35 m zM = some ([], ⟨0, 0⟩) := by
 unfold f35 f71 f111
 rw [f61_zero m hm]
 rfl
end Go.Abs
