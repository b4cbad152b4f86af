/-
  PATTERNS, the plain laws: code points of texts.
-/
import Derived.Test.YthiikobbfpfbkaaDoorWLaw
import Derived.Test.YthiikobbfpfbkaaDoorAbsH
import Derived.Lib.DecodeN
import Derived.Lib.RuneCount
namespace Go.Abs
open Go.Sort Go.Proofs
set_option linter.unusedVariables false
set_option maxRecDepth 100000
def bytN (s : ByteArray) : List Nat := s.data.toList.map fun b => b.toNat
theorem bytN_len (s : ByteArray) : (bytN s).length = s.size := by unfold bytN; rw [List.length_map, Array.length_toList]; rfl
theorem bytN_lt (s : ByteArray) : ∀ x ∈ bytN s, x < 256 := by
  intro x hx
  unfold bytN at hx
  obtain ⟨b, _, rfl⟩ := List.mem_map.1 hx
  exact b.toNat_lt
def oneN : List Nat → Option (Nat × Nat)
  | [] => none
  | b0 :: r =>
    if b0 < 128 then some (b0, 1)
    else if b0 < 194 then none
    else if b0 < 224 then (match r with
      | b1 :: _ => if 128 ≤ b1 ∧ b1 ≤ 191 then some ((b0 - 192) * 64 + (b1 - 128), 2) else none
      | _ => none)
    else if b0 < 240 then (match r with
      | b1 :: b2 :: _ => if (128 ≤ b1 ∧ b1 ≤ 191) ∧ (128 ≤ b2 ∧ b2 ≤ 191) ∧ 2048 ≤ (b0 - 224) * 4096 + (b1 - 128) * 64 + (b2 - 128) ∧ ((b0 - 224) * 4096 + (b1 - 128) * 64 + (b2 - 128) < 55296 ∨ 57344 ≤ (b0 - 224) * 4096 + (b1 - 128) * 64 + (b2 - 128)) then some ((b0 - 224) * 4096 + (b1 - 128) * 64 + (b2 - 128), 3) else none
      | _ => none)
    else if b0 < 245 then (match r with
      | b1 :: b2 :: b3 :: _ => if (128 ≤ b1 ∧ b1 ≤ 191) ∧ (128 ≤ b2 ∧ b2 ≤ 191) ∧ (128 ≤ b3 ∧ b3 ≤ 191) ∧ 65536 ≤ (b0 - 240) * 262144 + (b1 - 128) * 4096 + (b2 - 128) * 64 + (b3 - 128) ∧ (b0 - 240) * 262144 + (b1 - 128) * 4096 + (b2 - 128) * 64 + (b3 - 128) ≤ 1114111 then some ((b0 - 240) * 262144 + (b1 - 128) * 4096 + (b2 - 128) * 64 + (b3 - 128), 4) else none
      | _ => none)
    else none
def orBad : Option (Nat × Nat) → Nat × Nat
  | some x => x
  | none => (65533, 1)
theorem get_byt (s : ByteArray) (i k : Nat) : (s.get! (i + k)).toNat = (((bytN s).drop i)[k]?).getD 0 := by
  rw [List.getElem?_drop]
  unfold bytN
  rw [List.getElem?_map, Array.getElem?_toList]
  cases hq : s.data[i + k]? with
  | none =>
    have : s.get! (i + k) = 0 := by
      unfold ByteArray.get!
      simp only [getElem!_def, hq]
      rfl
    rw [this]; rfl
  | some b =>
    have : s.get! (i + k) = b := by
      unfold ByteArray.get!
      simp [getElem!_def, hq]
    rw [this]; rfl
def oneP (n b0 b1 b2 b3 : Nat) : Option (Nat × Nat) :=
  if b0 < 128 then some (b0, 1)
  else if b0 < 194 then none
  else if b0 < 224 then (if 1 < n ∧ 128 ≤ b1 ∧ b1 ≤ 191 then some ((b0 - 192) * 64 + (b1 - 128), 2) else none)
  else if b0 < 240 then (if 2 < n ∧ (128 ≤ b1 ∧ b1 ≤ 191) ∧ (128 ≤ b2 ∧ b2 ≤ 191) ∧ 2048 ≤ (b0 - 224) * 4096 + (b1 - 128) * 64 + (b2 - 128) ∧ ((b0 - 224) * 4096 + (b1 - 128) * 64 + (b2 - 128) < 55296 ∨ 57344 ≤ (b0 - 224) * 4096 + (b1 - 128) * 64 + (b2 - 128)) then some ((b0 - 224) * 4096 + (b1 - 128) * 64 + (b2 - 128), 3) else none)
  else if b0 < 245 then (if 3 < n ∧ (128 ≤ b1 ∧ b1 ≤ 191) ∧ (128 ≤ b2 ∧ b2 ≤ 191) ∧ (128 ≤ b3 ∧ b3 ≤ 191) ∧ 65536 ≤ (b0 - 240) * 262144 + (b1 - 128) * 4096 + (b2 - 128) * 64 + (b3 - 128) ∧ (b0 - 240) * 262144 + (b1 - 128) * 4096 + (b2 - 128) * 64 + (b3 - 128) ≤ 1114111 then some ((b0 - 240) * 262144 + (b1 - 128) * 4096 + (b2 - 128) * 64 + (b3 - 128), 4) else none)
  else none
theorem decodeN_P (n b0 b1 b2 b3 : Nat) (h0 : b0 < 256) (h1 : b1 < 256) (h2 : b2 < 256) (h3 : b3 < 256) : Lib.decodeN n b0 b1 b2 b3 = orBad (oneP n b0 b1 b2 b3) := by
  unfold Lib.decodeN
  by_cases k0 : b0 < 128
  · have : oneP n b0 b1 b2 b3 = some (b0, 1) := by unfold oneP; rw [if_pos k0]
    rw [if_pos k0, this]; rfl
  rw [if_neg k0]
  by_cases k1 : b0 < 194
  · have : oneP n b0 b1 b2 b3 = none := by unfold oneP; rw [if_neg k0, if_pos k1]
    rw [this]
    split
    · rename_i hc; rw [if_neg (by omega)]; rfl
    · rw [if_neg (by omega), if_neg (by omega)]; rfl
  by_cases k2 : b0 < 224
  · by_cases c : 1 < n ∧ 128 ≤ b1 ∧ b1 ≤ 191
    · have : oneP n b0 b1 b2 b3 = some ((b0 - 192) * 64 + (b1 - 128), 2) := by unfold oneP; rw [if_neg k0, if_neg k1, if_pos k2, if_pos c]
      rw [this, if_pos (by omega), if_pos (by omega)]
      have e : b0 % 32 * 64 + b1 % 64 = (b0 - 192) * 64 + (b1 - 128) := by omega
      rw [e]; rfl
    · have : oneP n b0 b1 b2 b3 = none := by unfold oneP; rw [if_neg k0, if_neg k1, if_pos k2, if_neg c]
      rw [this, if_neg (by omega), if_neg (by omega), if_neg (by omega)]; rfl
  by_cases k3 : b0 < 240
  · rw [if_neg (by omega)]
    by_cases c : 2 < n ∧ (128 ≤ b1 ∧ b1 ≤ 191) ∧ (128 ≤ b2 ∧ b2 ≤ 191)
    · have e : b0 % 16 * 4096 + b1 % 64 * 64 + b2 % 64 = (b0 - 224) * 4096 + (b1 - 128) * 64 + (b2 - 128) := by omega
      rw [if_pos (by omega), e]
      by_cases v : 2048 ≤ (b0 - 224) * 4096 + (b1 - 128) * 64 + (b2 - 128) ∧ ((b0 - 224) * 4096 + (b1 - 128) * 64 + (b2 - 128) < 55296 ∨ 57344 ≤ (b0 - 224) * 4096 + (b1 - 128) * 64 + (b2 - 128))
      · have : oneP n b0 b1 b2 b3 = some ((b0 - 224) * 4096 + (b1 - 128) * 64 + (b2 - 128), 3) := by unfold oneP; rw [if_neg k0, if_neg k1, if_neg k2, if_pos k3, if_pos ⟨c.1, c.2.1, c.2.2, v⟩]
        rw [this, if_pos (by omega)]; rfl
      · have : oneP n b0 b1 b2 b3 = none := by unfold oneP; rw [if_neg k0, if_neg k1, if_neg k2, if_pos k3, if_neg (fun h => v h.2.2.2)]
        rw [this, if_neg (by omega)]; rfl
    · have : oneP n b0 b1 b2 b3 = none := by unfold oneP; rw [if_neg k0, if_neg k1, if_neg k2, if_pos k3, if_neg (fun h => c ⟨h.1, h.2.1, h.2.2.1⟩)]
      rw [this, if_neg (by omega), if_neg (by omega)]; rfl
  rw [if_neg (by omega), if_neg (by omega)]
  by_cases k4 : b0 < 245
  · by_cases c : 3 < n ∧ (128 ≤ b1 ∧ b1 ≤ 191) ∧ (128 ≤ b2 ∧ b2 ≤ 191) ∧ (128 ≤ b3 ∧ b3 ≤ 191)
    · have e : b0 % 8 * 262144 + b1 % 64 * 4096 + b2 % 64 * 64 + b3 % 64 = (b0 - 240) * 262144 + (b1 - 128) * 4096 + (b2 - 128) * 64 + (b3 - 128) := by omega
      rw [if_pos (by omega), e]
      by_cases v : 65536 ≤ (b0 - 240) * 262144 + (b1 - 128) * 4096 + (b2 - 128) * 64 + (b3 - 128) ∧ (b0 - 240) * 262144 + (b1 - 128) * 4096 + (b2 - 128) * 64 + (b3 - 128) ≤ 1114111
      · have : oneP n b0 b1 b2 b3 = some ((b0 - 240) * 262144 + (b1 - 128) * 4096 + (b2 - 128) * 64 + (b3 - 128), 4) := by unfold oneP; rw [if_neg k0, if_neg k1, if_neg k2, if_neg k3, if_pos k4, if_pos ⟨c.1, c.2.1, c.2.2.1, c.2.2.2, v⟩]
        rw [this, if_pos (by omega)]; rfl
      · have : oneP n b0 b1 b2 b3 = none := by unfold oneP; rw [if_neg k0, if_neg k1, if_neg k2, if_neg k3, if_pos k4, if_neg (fun h => v h.2.2.2.2)]
        rw [this, if_neg (by omega)]; rfl
    · have : oneP n b0 b1 b2 b3 = none := by unfold oneP; rw [if_neg k0, if_neg k1, if_neg k2, if_neg k3, if_pos k4, if_neg (fun h => c ⟨h.1, h.2.1, h.2.2.1, h.2.2.2.1⟩)]
      rw [this, if_neg (by omega)]; rfl
  · have : oneP n b0 b1 b2 b3 = none := by unfold oneP; rw [if_neg k0, if_neg k1, if_neg k2, if_neg k3, if_neg k4]
    rw [this]
    split
    · rw [if_neg (by omega)]; rfl
    · rfl
theorem oneN_P : ∀ (l : List Nat), l ≠ [] → oneN l = oneP l.length ((l[0]?).getD 0) ((l[1]?).getD 0) ((l[2]?).getD 0) ((l[3]?).getD 0)
  | [], h => (h rfl).elim
  | [b0], _ => by simp [oneN, oneP]
  | [b0, b1], _ => by simp [oneN, oneP]
  | [b0, b1, b2], _ => by simp [oneN, oneP]
  | b0 :: b1 :: b2 :: b3 :: r, _ => by simp [oneN, oneP]
theorem decodeN_one (l : List Nat) (hne : l ≠ []) (hl : ∀ x ∈ l, x < 256) : Lib.decodeN l.length ((l[0]?).getD 0) ((l[1]?).getD 0) ((l[2]?).getD 0) ((l[3]?).getD 0) = orBad (oneN l) := by
  have hk : ∀ k : Nat, (l[k]?).getD 0 < 256 := by
    intro k
    cases hq : l[k]? with
    | none => decide
    | some x => exact hl x (List.mem_of_getElem? hq)
  rw [oneN_P l hne, decodeN_P _ _ _ _ _ (hk 0) (hk 1) (hk 2) (hk 3)]
theorem decode_one (s : ByteArray) (i : Nat) (hi : i < s.size) : Utf8.decode s i = orBad (oneN ((bytN s).drop i)) := by
  rw [Lib.decode_at]
  have hlen : ((bytN s).drop i).length = s.size - i := by rw [List.length_drop, bytN_len]
  have e0 := get_byt s i 0
  have e1 := get_byt s i 1
  have e2 := get_byt s i 2
  have e3 := get_byt s i 3
  rw [Nat.add_zero] at e0
  rw [e0, e1, e2, e3, ← hlen]
  refine decodeN_one _ (fun h => ?_) (fun x hx => bytN_lt s x (List.mem_of_mem_drop hx))
  have h2 := congrArg List.length h
  rw [hlen] at h2
  simp only [List.length_nil] at h2
  omega
inductive One : List Nat → Nat → Nat → Prop
  | w1 (b0 : Nat) (r : List Nat) (h : b0 < 128) : One (b0 :: r) b0 1
  | w2 (b0 b1 : Nat) (r : List Nat) (h : 194 ≤ b0 ∧ b0 < 224) (h1 : 128 ≤ b1 ∧ b1 ≤ 191) : One (b0 :: b1 :: r) ((b0 - 192) * 64 + (b1 - 128)) 2
  | w3 (b0 b1 b2 : Nat) (r : List Nat) (h : 224 ≤ b0 ∧ b0 < 240) (h1 : 128 ≤ b1 ∧ b1 ≤ 191) (h2 : 128 ≤ b2 ∧ b2 ≤ 191)
      (h3 : 2048 ≤ (b0 - 224) * 4096 + (b1 - 128) * 64 + (b2 - 128) ∧ ((b0 - 224) * 4096 + (b1 - 128) * 64 + (b2 - 128) < 55296 ∨ 57344 ≤ (b0 - 224) * 4096 + (b1 - 128) * 64 + (b2 - 128))) :
      One (b0 :: b1 :: b2 :: r) ((b0 - 224) * 4096 + (b1 - 128) * 64 + (b2 - 128)) 3
  | w4 (b0 b1 b2 b3 : Nat) (r : List Nat) (h : 240 ≤ b0 ∧ b0 < 245) (h1 : 128 ≤ b1 ∧ b1 ≤ 191) (h2 : 128 ≤ b2 ∧ b2 ≤ 191) (h3 : 128 ≤ b3 ∧ b3 ≤ 191)
      (h4 : 65536 ≤ (b0 - 240) * 262144 + (b1 - 128) * 4096 + (b2 - 128) * 64 + (b3 - 128) ∧ (b0 - 240) * 262144 + (b1 - 128) * 4096 + (b2 - 128) * 64 + (b3 - 128) ≤ 1114111) :
      One (b0 :: b1 :: b2 :: b3 :: r) ((b0 - 240) * 262144 + (b1 - 128) * 4096 + (b2 - 128) * 64 + (b3 - 128)) 4
theorem oneN_One {l : List Nat} {p w : Nat} (h : oneN l = some (p, w)) : One l p w := by
  unfold oneN at h
  split at h
  · cases h
  · rename_i b0 r
    split at h
    · cases h; exact .w1 _ _ (by assumption)
    · split at h
      · cases h
      · split at h
        · split at h
          · split at h
            · rename_i hc; simp only [Option.some.injEq, Prod.mk.injEq] at h; obtain ⟨rfl, rfl⟩ := h; exact .w2 _ _ _ ⟨by omega, by omega⟩ hc
            · cases h
          · cases h
        · split at h
          · split at h
            · split at h
              · rename_i hc; simp only [Option.some.injEq, Prod.mk.injEq] at h; obtain ⟨rfl, rfl⟩ := h; exact .w3 _ _ _ _ ⟨by omega, by omega⟩ hc.1 hc.2.1 hc.2.2
              · cases h
            · cases h
          · split at h
            · split at h
              · split at h
                · rename_i hc; simp only [Option.some.injEq, Prod.mk.injEq] at h; obtain ⟨rfl, rfl⟩ := h; exact .w4 _ _ _ _ _ ⟨by omega, by omega⟩ hc.1 hc.2.1 hc.2.2.1 hc.2.2.2
                · cases h
              · cases h
            · cases h
theorem One.toN {l : List Nat} {p w : Nat} (h : One l p w) : oneN l = some (p, w) := by
  cases h with
  | w1 b0 r h => simp only [oneN]; rw [if_pos h]
  | w2 b0 b1 r h h1 => simp only [oneN]; rw [if_neg (by omega), if_neg (by omega), if_pos h.2, if_pos h1]
  | w3 b0 b1 b2 r h h1 h2 h3 => simp only [oneN]; rw [if_neg (by omega), if_neg (by omega), if_neg (by omega), if_pos h.2, if_pos ⟨h1, h2, h3⟩]
  | w4 b0 b1 b2 b3 r h h1 h2 h3 h4 => simp only [oneN]; rw [if_neg (by omega), if_neg (by omega), if_neg (by omega), if_neg (by omega), if_pos h.2, if_pos ⟨h1, h2, h3, h4⟩]
theorem One.app {a b : List Nat} {p w : Nat} (h : One a p w) : One (a ++ b) p w := by
  cases h with
  | w1 b0 r h => exact .w1 _ _ h
  | w2 b0 b1 r h h1 => exact .w2 _ _ _ h h1
  | w3 b0 b1 b2 r h h1 h2 h3 => exact .w3 _ _ _ _ h h1 h2 h3
  | w4 b0 b1 b2 b3 r h h1 h2 h3 h4 => exact .w4 _ _ _ _ _ h h1 h2 h3 h4
theorem oneN_w {l : List Nat} {p w : Nat} (h : oneN l = some (p, w)) : 1 ≤ w ∧ w ≤ 4 ∧ w ≤ l.length ∧ p ≤ 1114111 ∧ (w = 1 → p < 128) ∧ (w = 2 → 128 ≤ p ∧ p < 2048) ∧ (w = 3 → 2048 ≤ p ∧ p < 65536) ∧ (w = 4 → 65536 ≤ p) := by
  cases oneN_One h with
  | w1 b0 r h => simp only [List.length_cons]; omega
  | w2 b0 b1 r h h1 => simp only [List.length_cons]; omega
  | w3 b0 b1 b2 r h h1 h2 h3 => simp only [List.length_cons]; omega
  | w4 b0 b1 b2 b3 r h h1 h2 h3 h4 => simp only [List.length_cons]; omega
theorem One.width {l : List Nat} {p w : Nat} (h : One l p w) : 1 ≤ w ∧ w ≤ l.length := by
  have := oneN_w h.toN
  exact ⟨this.1, this.2.2.1⟩
def pts : Nat → List Nat → Option (List Nat)
  | _, [] => some []
  | 0, _ :: _ => none
  | n + 1, b :: l => match oneN (b :: l) with
    | some (p, w) => (pts n ((b :: l).drop w)).map (p :: ·)
    | none => none
theorem pts_fuel : ∀ (n m : Nat) (l : List Nat), l.length ≤ n → l.length ≤ m → pts n l = pts m l
  | 0, 0, [], _, _ => rfl
  | 0, m + 1, [], _, _ => rfl
  | n + 1, 0, [], _, _ => rfl
  | n + 1, m + 1, [], _, _ => rfl
  | 0, _, b :: l, h, _ => by simp at h
  | n + 1, 0, b :: l, _, h => by simp at h
  | n + 1, m + 1, b :: l, h1, h2 => by
    simp only [pts]
    cases hq : oneN (b :: l) with
    | none => rfl
    | some x =>
      obtain ⟨p, w⟩ := x
      have hw := (oneN_One hq).width
      have : ((b :: l).drop w).length ≤ n ∧ ((b :: l).drop w).length ≤ m := by
        rw [List.length_drop]
        simp only [List.length_cons] at h1 h2 hw ⊢
        omega
      simp only
      rw [pts_fuel n m _ this.1 this.2]
def ptsB (l : List Nat) : Option (List Nat) := pts l.length l
theorem ptsB_nil : ptsB [] = some [] := rfl
theorem ptsB_bad {l : List Nat} (hne : l ≠ []) (h : oneN l = none) : ptsB l = none := by
  cases l with
  | nil => exact (hne rfl).elim
  | cons b l => unfold ptsB; simp only [List.length_cons, pts, h]
theorem ptsB_one {l : List Nat} {p w : Nat} (h : oneN l = some (p, w)) : ptsB l = (ptsB (l.drop w)).map (p :: ·) := by
  cases l with
  | nil => cases h
  | cons b l =>
    have hw := (oneN_One h).width
    unfold ptsB
    simp only [List.length_cons, pts, h]
    rw [pts_fuel l.length ((b :: l).drop w).length _ (by rw [List.length_drop]; simp only [List.length_cons]; omega) (Nat.le_refl _)]
theorem ptsB_cat : ∀ (n : Nat) (a b La Lb : List Nat), a.length ≤ n → ptsB a = some La → ptsB b = some Lb → ptsB (a ++ b) = some (La ++ Lb)
  | n, [], b, La, Lb, _, ha, hb => by
    rw [ptsB_nil] at ha
    cases ha
    exact hb
  | 0, x :: a, b, La, Lb, hn, ha, hb => by simp at hn
  | n + 1, x :: a, b, La, Lb, hn, ha, hb => by
    cases hq : oneN (x :: a) with
    | none => rw [ptsB_bad (by simp) hq] at ha; cases ha
    | some y =>
      obtain ⟨p, w⟩ := y
      have h1 := oneN_One hq
      have hw := h1.width
      rw [ptsB_one hq] at ha
      obtain ⟨La', hLa, rfl⟩ := Option.map_eq_some_iff.1 ha
      have h2 : oneN (x :: a ++ b) = some (p, w) := (h1.app).toN
      rw [ptsB_one h2]
      have e : (x :: a ++ b).drop w = (x :: a).drop w ++ b := List.drop_append_of_le_length hw.2
      rw [e, ptsB_cat n _ b La' Lb (by rw [List.length_drop]; simp only [List.length_cons] at hn ⊢; omega) hLa hb]
      rfl
theorem ptsB_len : ∀ (n : Nat) (l L : List Nat), l.length ≤ n → ptsB l = some L → L.length ≤ l.length ∧ l.length ≤ 4 * L.length ∧ ∀ p ∈ L, p ≤ 1114111
  | n, [], L, _, h => by rw [ptsB_nil] at h; cases h; exact ⟨Nat.le_refl _, Nat.le_refl _, fun p hp => by cases hp⟩
  | 0, x :: a, L, hn, h => by simp at hn
  | n + 1, x :: a, L, hn, h => by
    cases hq : oneN (x :: a) with
    | none => rw [ptsB_bad (by simp) hq] at h; cases h
    | some y =>
      obtain ⟨p, w⟩ := y
      obtain ⟨g1, g2, g3, g4, _⟩ := oneN_w hq
      rw [ptsB_one hq] at h
      obtain ⟨L', hL, rfl⟩ := Option.map_eq_some_iff.1 h
      have ih := ptsB_len n _ L' (by rw [List.length_drop]; simp only [List.length_cons] at hn ⊢; omega) hL
      rw [List.length_drop] at ih
      refine ⟨by simp only [List.length_cons] at *; omega, by simp only [List.length_cons] at *; omega, fun q hq => ?_⟩
      rcases List.mem_cons.1 hq with rfl | hq
      · exact g4
      · exact ih.2.2 q hq
def ptsS (s : ByteArray) : Option (List Nat) := ptsB (bytN s)
theorem bytN_cat (a b : ByteArray) : bytN (a ++ b) = bytN a ++ bytN b := by
  unfold bytN
  rw [ByteArray.data_append, Array.toList_append, List.map_append]
theorem bytN_extract (s : ByteArray) (i j : Nat) : bytN (s.extract i j) = ((bytN s).drop i).take (j - i) := by
  unfold bytN
  rw [ByteArray.data_extract, Array.toList_extract]
  simp only [List.extract_eq_take_drop, List.map_take, List.map_drop]
theorem bytN_inj {a b : ByteArray} (h : bytN a = bytN b) : a = b := by
  unfold bytN at h
  have h1 : a.data.toList = b.data.toList := by
    have := (List.map_inj_right (f := fun b : UInt8 => b.toNat) (fun x y e => UInt8.toNat_inj.1 e)).1 h
    exact this
  have h2 : a.data = b.data := by rw [← Array.toArray_toList (xs := a.data), h1, Array.toArray_toList]
  cases a; cases b; simp only at h2; rw [h2]
def castL (L : List Nat) : List Int := L.map fun n : Nat => (n : Int)
theorem bytN_all (s : ByteArray) (i : Nat) : bytN (s.extract i s.size) = (bytN s).drop i := by
  rw [bytN_extract, List.take_of_length_le (by rw [List.length_drop, bytN_len]; omega)]
theorem castL_get {L : List Nat} {i : Nat} {x : Int} (h : (castL L)[i]? = some x) : ∃ p : Nat, x = (p : Int) ∧ p ∈ L := by
  unfold castL at h
  rw [List.getElem?_map] at h
  obtain ⟨p, h1, h2⟩ := Option.map_eq_some_iff.1 h
  exact ⟨p, h2.symm, List.mem_of_getElem? h1⟩
theorem castL_len (L : List Nat) : (castL L).length = L.length := by unfold castL; rw [List.length_map]
theorem ptsS_len {s : ByteArray} {L : List Nat} (h : ptsS s = some L) : L.length ≤ s.size ∧ s.size ≤ 4 * L.length ∧ ∀ p ∈ L, p ≤ 1114111 := by
  have := ptsB_len _ _ L (Nat.le_refl _) h
  rwa [bytN_len] at this
end Go.Abs
