import Derived.Test.YthjhdnonlkooiaaDoorLA1
import Derived.Lib.DecodeN
import Derived.Lib.RuneCount
namespace Go.Abs
set_option linter.unusedVariables false
/-! ### code points -/
def bytN (s : ByteArray) : List Nat := s.data.toList.map fun b => b.toNat
theorem bytN_len (s : ByteArray) : (bytN s).length = s.size := by unfold bytN; rw [List.length_map, Array.length_toList]; rfl
theorem byt_bytN (s : ByteArray) : byt s = (bytN s).map fun n : Nat => (n : Int) := by unfold byt bytN; rw [List.map_map]; rfl
theorem bytN_lt (s : ByteArray) : ∀ x ∈ bytN s, x < 256 := by
  intro x hx
  unfold bytN at hx
  obtain ⟨b, _, rfl⟩ := List.mem_map.1 hx
  exact b.toNat_lt
/-- the first code point of some bytes, and how many bytes it takes -/
def oneN : List Nat → Option (Nat × Nat)
  | [] => none
  | b0 :: r =>
    if b0 < 128 then some (b0, 1)
    else if b0 < 194 then none
    else if b0 < 224 then (match r with
      | b1 :: _ => if 128 ≤ b1 ∧ b1 ≤ 191 then some ((b0 - 192) * 64 + (b1 - 128), 2) else none
      | _ => none)
    else if b0 < 240 then (match r with
      | b1 :: b2 :: _ => if (128 ≤ b1 ∧ b1 ≤ 191) ∧ (128 ≤ b2 ∧ b2 ≤ 191) ∧ 2048 ≤ (b0 - 224) * 4096 + (b1 - 128) * 64 + (b2 - 128) ∧ ((b0 - 224) * 4096 + (b1 - 128) * 64 + (b2 - 128) < 55296 ∨ 57344 ≤ (b0 - 224) * 4096 + (b1 - 128) * 64 + (b2 - 128)) then some ((b0 - 224) * 4096 + (b1 - 128) * 64 + (b2 - 128), 3) else none
      | _ => none)
    else if b0 < 245 then (match r with
      | b1 :: b2 :: b3 :: _ => if (128 ≤ b1 ∧ b1 ≤ 191) ∧ (128 ≤ b2 ∧ b2 ≤ 191) ∧ (128 ≤ b3 ∧ b3 ≤ 191) ∧ 65536 ≤ (b0 - 240) * 262144 + (b1 - 128) * 4096 + (b2 - 128) * 64 + (b3 - 128) ∧ (b0 - 240) * 262144 + (b1 - 128) * 4096 + (b2 - 128) * 64 + (b3 - 128) ≤ 1114111 then some ((b0 - 240) * 262144 + (b1 - 128) * 4096 + (b2 - 128) * 64 + (b3 - 128), 4) else none
      | _ => none)
    else none
def orBad : Option (Nat × Nat) → Nat × Nat
  | some x => x
  | none => (65533, 1)
theorem get_byt (s : ByteArray) (i k : Nat) : (s.get! (i + k)).toNat = (((bytN s).drop i)[k]?).getD 0 := by
  rw [List.getElem?_drop]
  unfold bytN
  rw [List.getElem?_map, Array.getElem?_toList]
  cases hq : s.data[i + k]? with
  | none =>
    have : s.get! (i + k) = 0 := by
      unfold ByteArray.get!
      simp only [getElem!_def, hq]
      rfl
    rw [this]; rfl
  | some b =>
    have : s.get! (i + k) = b := by
      unfold ByteArray.get!
      simp [getElem!_def, hq]
    rw [this]; rfl
def oneP (n b0 b1 b2 b3 : Nat) : Option (Nat × Nat) :=
  if b0 < 128 then some (b0, 1)
  else if b0 < 194 then none
  else if b0 < 224 then (if 1 < n ∧ 128 ≤ b1 ∧ b1 ≤ 191 then some ((b0 - 192) * 64 + (b1 - 128), 2) else none)
  else if b0 < 240 then (if 2 < n ∧ (128 ≤ b1 ∧ b1 ≤ 191) ∧ (128 ≤ b2 ∧ b2 ≤ 191) ∧ 2048 ≤ (b0 - 224) * 4096 + (b1 - 128) * 64 + (b2 - 128) ∧ ((b0 - 224) * 4096 + (b1 - 128) * 64 + (b2 - 128) < 55296 ∨ 57344 ≤ (b0 - 224) * 4096 + (b1 - 128) * 64 + (b2 - 128)) then some ((b0 - 224) * 4096 + (b1 - 128) * 64 + (b2 - 128), 3) else none)
  else if b0 < 245 then (if 3 < n ∧ (128 ≤ b1 ∧ b1 ≤ 191) ∧ (128 ≤ b2 ∧ b2 ≤ 191) ∧ (128 ≤ b3 ∧ b3 ≤ 191) ∧ 65536 ≤ (b0 - 240) * 262144 + (b1 - 128) * 4096 + (b2 - 128) * 64 + (b3 - 128) ∧ (b0 - 240) * 262144 + (b1 - 128) * 4096 + (b2 - 128) * 64 + (b3 - 128) ≤ 1114111 then some ((b0 - 240) * 262144 + (b1 - 128) * 4096 + (b2 - 128) * 64 + (b3 - 128), 4) else none)
  else none
set_option maxHeartbeats 4000000 in
theorem decodeN_P (n b0 b1 b2 b3 : Nat) (h0 : b0 < 256) (h1 : b1 < 256) (h2 : b2 < 256) (h3 : b3 < 256) : Lib.decodeN n b0 b1 b2 b3 = orBad (oneP n b0 b1 b2 b3) := by
  unfold Lib.decodeN
  by_cases k0 : b0 < 128
  · have : oneP n b0 b1 b2 b3 = some (b0, 1) := by unfold oneP; rw [if_pos k0]
    rw [if_pos k0, this]; rfl
  rw [if_neg k0]
  by_cases k1 : b0 < 194
  · have : oneP n b0 b1 b2 b3 = none := by unfold oneP; rw [if_neg k0, if_pos k1]
    rw [this]
    split
    · rename_i hc; rw [if_neg (by omega)]; rfl
    · rw [if_neg (by omega), if_neg (by omega)]; rfl
  by_cases k2 : b0 < 224
  · by_cases c : 1 < n ∧ 128 ≤ b1 ∧ b1 ≤ 191
    · have : oneP n b0 b1 b2 b3 = some ((b0 - 192) * 64 + (b1 - 128), 2) := by unfold oneP; rw [if_neg k0, if_neg k1, if_pos k2, if_pos c]
      rw [this, if_pos (by omega), if_pos (by omega)]
      have e : b0 % 32 * 64 + b1 % 64 = (b0 - 192) * 64 + (b1 - 128) := by omega
      rw [e]; rfl
    · have : oneP n b0 b1 b2 b3 = none := by unfold oneP; rw [if_neg k0, if_neg k1, if_pos k2, if_neg c]
      rw [this, if_neg (by omega), if_neg (by omega), if_neg (by omega)]; rfl
  by_cases k3 : b0 < 240
  · rw [if_neg (by omega)]
    by_cases c : 2 < n ∧ (128 ≤ b1 ∧ b1 ≤ 191) ∧ (128 ≤ b2 ∧ b2 ≤ 191)
    · have e : b0 % 16 * 4096 + b1 % 64 * 64 + b2 % 64 = (b0 - 224) * 4096 + (b1 - 128) * 64 + (b2 - 128) := by omega
      rw [if_pos (by omega), e]
      by_cases v : 2048 ≤ (b0 - 224) * 4096 + (b1 - 128) * 64 + (b2 - 128) ∧ ((b0 - 224) * 4096 + (b1 - 128) * 64 + (b2 - 128) < 55296 ∨ 57344 ≤ (b0 - 224) * 4096 + (b1 - 128) * 64 + (b2 - 128))
      · have : oneP n b0 b1 b2 b3 = some ((b0 - 224) * 4096 + (b1 - 128) * 64 + (b2 - 128), 3) := by unfold oneP; rw [if_neg k0, if_neg k1, if_neg k2, if_pos k3, if_pos ⟨c.1, c.2.1, c.2.2, v⟩]
        rw [this, if_pos (by omega)]; rfl
      · have : oneP n b0 b1 b2 b3 = none := by unfold oneP; rw [if_neg k0, if_neg k1, if_neg k2, if_pos k3, if_neg (fun h => v h.2.2.2)]
        rw [this, if_neg (by omega)]; rfl
    · have : oneP n b0 b1 b2 b3 = none := by unfold oneP; rw [if_neg k0, if_neg k1, if_neg k2, if_pos k3, if_neg (fun h => c ⟨h.1, h.2.1, h.2.2.1⟩)]
      rw [this, if_neg (by omega), if_neg (by omega)]; rfl
  rw [if_neg (by omega), if_neg (by omega)]
  by_cases k4 : b0 < 245
  · by_cases c : 3 < n ∧ (128 ≤ b1 ∧ b1 ≤ 191) ∧ (128 ≤ b2 ∧ b2 ≤ 191) ∧ (128 ≤ b3 ∧ b3 ≤ 191)
    · have e : b0 % 8 * 262144 + b1 % 64 * 4096 + b2 % 64 * 64 + b3 % 64 = (b0 - 240) * 262144 + (b1 - 128) * 4096 + (b2 - 128) * 64 + (b3 - 128) := by omega
      rw [if_pos (by omega), e]
      by_cases v : 65536 ≤ (b0 - 240) * 262144 + (b1 - 128) * 4096 + (b2 - 128) * 64 + (b3 - 128) ∧ (b0 - 240) * 262144 + (b1 - 128) * 4096 + (b2 - 128) * 64 + (b3 - 128) ≤ 1114111
      · have : oneP n b0 b1 b2 b3 = some ((b0 - 240) * 262144 + (b1 - 128) * 4096 + (b2 - 128) * 64 + (b3 - 128), 4) := by unfold oneP; rw [if_neg k0, if_neg k1, if_neg k2, if_neg k3, if_pos k4, if_pos ⟨c.1, c.2.1, c.2.2.1, c.2.2.2, v⟩]
        rw [this, if_pos (by omega)]; rfl
      · have : oneP n b0 b1 b2 b3 = none := by unfold oneP; rw [if_neg k0, if_neg k1, if_neg k2, if_neg k3, if_pos k4, if_neg (fun h => v h.2.2.2.2)]
        rw [this, if_neg (by omega)]; rfl
    · have : oneP n b0 b1 b2 b3 = none := by unfold oneP; rw [if_neg k0, if_neg k1, if_neg k2, if_neg k3, if_pos k4, if_neg (fun h => c ⟨h.1, h.2.1, h.2.2.1, h.2.2.2.1⟩)]
      rw [this, if_neg (by omega)]; rfl
  · have : oneP n b0 b1 b2 b3 = none := by unfold oneP; rw [if_neg k0, if_neg k1, if_neg k2, if_neg k3, if_neg k4]
    rw [this]
    split
    · rw [if_neg (by omega)]; rfl
    · rfl
theorem oneN_P : ∀ (l : List Nat), l ≠ [] → oneN l = oneP l.length ((l[0]?).getD 0) ((l[1]?).getD 0) ((l[2]?).getD 0) ((l[3]?).getD 0)
  | [], h => (h rfl).elim
  | [b0], _ => by simp [oneN, oneP]
  | [b0, b1], _ => by simp [oneN, oneP]
  | [b0, b1, b2], _ => by simp [oneN, oneP]
  | b0 :: b1 :: b2 :: b3 :: r, _ => by simp [oneN, oneP]
theorem decodeN_one (l : List Nat) (hne : l ≠ []) (hl : ∀ x ∈ l, x < 256) : Lib.decodeN l.length ((l[0]?).getD 0) ((l[1]?).getD 0) ((l[2]?).getD 0) ((l[3]?).getD 0) = orBad (oneN l) := by
  have hk : ∀ k : Nat, (l[k]?).getD 0 < 256 := by
    intro k
    cases hq : l[k]? with
    | none => decide
    | some x => exact hl x (List.mem_of_getElem? hq)
  rw [oneN_P l hne, decodeN_P _ _ _ _ _ (hk 0) (hk 1) (hk 2) (hk 3)]
theorem decode_one (s : ByteArray) (i : Nat) (hi : i < s.size) : Utf8.decode s i = orBad (oneN ((bytN s).drop i)) := by
  rw [Lib.decode_at]
  have hlen : ((bytN s).drop i).length = s.size - i := by rw [List.length_drop, bytN_len]
  have e0 := get_byt s i 0
  have e1 := get_byt s i 1
  have e2 := get_byt s i 2
  have e3 := get_byt s i 3
  rw [Nat.add_zero] at e0
  rw [e0, e1, e2, e3, ← hlen]
  refine decodeN_one _ (fun h => ?_) (fun x hx => bytN_lt s x (List.mem_of_mem_drop hx))
  have h2 := congrArg List.length h
  rw [hlen] at h2
  simp only [List.length_nil] at h2
  omega
end Go.Abs
