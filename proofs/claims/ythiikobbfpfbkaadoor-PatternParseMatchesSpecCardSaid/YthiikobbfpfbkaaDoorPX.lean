import Derived.Test.YthiikobbfpfbkaaDoorWLaw
import Derived.Test.YthiikobbfpfbkaaDoorAbsH
import Derived.Lib.DecodeN
import Derived.Lib.RuneCount
namespace Go.Abs
open Go.Sort Go.Proofs
set_option linter.unusedVariables false
set_option maxRecDepth 100000
def bytN (s : ByteArray) : List Nat := s.data.toList.map fun b => b.toNat
theorem bytN_len (s : ByteArray) : (bytN s).length = s.size := by unfold bytN; rw [List.length_map, Array.length_toList]; rfl
theorem bytN_lt (s : ByteArray) : ∀ x ∈ bytN s, x < 256 := by
 intro x hx
 unfold bytN at hx
 obtain ⟨b, _, rfl⟩ := List.mem_map.1 hx
 exact b.toNat_lt
def oneN : List Nat → Option (Nat × Nat)
 | [] => none
 | b0 :: r =>
  if b0 < 128 then some (b0, 1)
  else if b0 < 194 then none
  else if b0 < 224 then (match r with
   | b1 :: _ => if 128 ≤ b1 ∧ b1 ≤ 191 then some ((b0 - 192) * 64 + (b1 - 128), 2) else none
   | _ => none)
  else if b0 < 240 then (match r with
   | b1 :: b2 :: _ => if (128 ≤ b1 ∧ b1 ≤ 191) ∧ (128 ≤ b2 ∧ b2 ≤ 191) ∧ 2048 ≤ (b0 - 224) * 4096 + (b1 - 128) * 64 + (b2 - 128) ∧ ((b0 - 224) * 4096 + (b1 - 128) * 64 + (b2 - 128) < 55296 ∨ 57344 ≤ (b0 - 224) * 4096 + (b1 - 128) * 64 + (b2 - 128)) then some ((b0 - 224) * 4096 + (b1 - 128) * 64 + (b2 - 128), 3) else none
   | _ => none)
  else if b0 < 245 then (match r with
   | b1 :: b2 :: b3 :: _ => if (128 ≤ b1 ∧ b1 ≤ 191) ∧ (128 ≤ b2 ∧ b2 ≤ 191) ∧ (128 ≤ b3 ∧ b3 ≤ 191) ∧ 65536 ≤ (b0 - 240) * 262144 + (b1 - 128) * 4096 + (b2 - 128) * 64 + (b3 - 128) ∧ (b0 - 240) * 262144 + (b1 - 128) * 4096 + (b2 - 128) * 64 + (b3 - 128) ≤ 1114111 then some ((b0 - 240) * 262144 + (b1 - 128) * 4096 + (b2 - 128) * 64 + (b3 - 128), 4) else none
   | _ => none)
  else none
def orBad : Option (Nat × Nat) → Nat × Nat
 | some x => x
 | none => (65533, 1)
theorem get_byt (s : ByteArray) (i k : Nat) : (s.get! (i + k)).toNat = (((bytN s).drop i)[k]?).getD 0 := by
 rw [List.getElem?_drop]
 unfold bytN
 rw [List.getElem?_map, Array.getElem?_toList]
 cases hq : s.data[i + k]? with
 | none =>
  have : s.get! (i + k) = 0 := by
   unfold ByteArray.get!
   simp only [getElem!_def, hq]
   rfl
  rw [this]; rfl
 | some b =>
  have : s.get! (i + k) = b := by
   unfold ByteArray.get!
   simp [getElem!_def, hq]
  rw [this]; rfl
def oneP (n b0 b1 b2 b3 : Nat) : Option (Nat × Nat) :=
 if b0 < 128 then some (b0, 1)
 else if b0 < 194 then none
 else if b0 < 224 then (if 1 < n ∧ 128 ≤ b1 ∧ b1 ≤ 191 then some ((b0 - 192) * 64 + (b1 - 128), 2) else none)
 else if b0 < 240 then (if 2 < n ∧ (128 ≤ b1 ∧ b1 ≤ 191) ∧ (128 ≤ b2 ∧ b2 ≤ 191) ∧ 2048 ≤ (b0 - 224) * 4096 + (b1 - 128) * 64 + (b2 - 128) ∧ ((b0 - 224) * 4096 + (b1 - 128) * 64 + (b2 - 128) < 55296 ∨ 57344 ≤ (b0 - 224) * 4096 + (b1 - 128) * 64 + (b2 - 128)) then some ((b0 - 224) * 4096 + (b1 - 128) * 64 + (b2 - 128), 3) else none)
 else if b0 < 245 then (if 3 < n ∧ (128 ≤ b1 ∧ b1 ≤ 191) ∧ (128 ≤ b2 ∧ b2 ≤ 191) ∧ (128 ≤ b3 ∧ b3 ≤ 191) ∧ 65536 ≤ (b0 - 240) * 262144 + (b1 - 128) * 4096 + (b2 - 128) * 64 + (b3 - 128) ∧ (b0 - 240) * 262144 + (b1 - 128) * 4096 + (b2 - 128) * 64 + (b3 - 128) ≤ 1114111 then some ((b0 - 240) * 262144 + (b1 - 128) * 4096 + (b2 - 128) * 64 + (b3 - 128), 4) else none)
 else none
theorem decodeN_P (n b0 b1 b2 b3 : Nat) (h0 : b0 < 256) (h1 : b1 < 256) (h2 : b2 < 256) (h3 : b3 < 256) : Lib.decodeN n b0 b1 b2 b3 = orBad (oneP n b0 b1 b2 b3) := by
 unfold Lib.decodeN
 by_cases k0 : b0 < 128
 ·have : oneP n b0 b1 b2 b3 = some (b0, 1) := by unfold oneP; rw [if_pos k0]
  rw [if_pos k0, this]; rfl
 rw [if_neg k0]
 by_cases k1 : b0 < 194
 ·have : oneP n b0 b1 b2 b3 = none := by unfold oneP; rw [if_neg k0, if_pos k1]
  rw [this]
  split
  ·rename_i hc; rw [if_neg (by omega)]; rfl
  ·rw [if_neg (by omega), if_neg (by omega)]; rfl
 by_cases k2 : b0 < 224
 ·by_cases c : 1 < n ∧ 128 ≤ b1 ∧ b1 ≤ 191
  ·have : oneP n b0 b1 b2 b3 = some ((b0 - 192) * 64 + (b1 - 128), 2) := by unfold oneP; rw [if_neg k0, if_neg k1, if_pos k2, if_pos c]
   rw [this, if_pos (by omega), if_pos (by omega)]
   have e : b0 % 32 * 64 + b1 % 64 = (b0 - 192) * 64 + (b1 - 128) := by omega
   rw [e]; rfl
  ·have : oneP n b0 b1 b2 b3 = none := by unfold oneP; rw [if_neg k0, if_neg k1, if_pos k2, if_neg c]
   rw [this, if_neg (by omega), if_neg (by omega), if_neg (by omega)]; rfl
 by_cases k3 : b0 < 240
 ·rw [if_neg (by omega)]
  by_cases c : 2 < n ∧ (128 ≤ b1 ∧ b1 ≤ 191) ∧ (128 ≤ b2 ∧ b2 ≤ 191)
  ·have e : b0 % 16 * 4096 + b1 % 64 * 64 + b2 % 64 = (b0 - 224) * 4096 + (b1 - 128) * 64 + (b2 - 128) := by omega
   rw [if_pos (by omega), e]
   by_cases v : 2048 ≤ (b0 - 224) * 4096 + (b1 - 128) * 64 + (b2 - 128) ∧ ((b0 - 224) * 4096 + (b1 - 128) * 64 + (b2 - 128) < 55296 ∨ 57344 ≤ (b0 - 224) * 4096 + (b1 - 128) * 64 + (b2 - 128))
   ·have : oneP n b0 b1 b2 b3 = some ((b0 - 224) * 4096 + (b1 - 128) * 64 + (b2 - 128), 3) := by unfold oneP; rw [if_neg k0, if_neg k1, if_neg k2, if_pos k3, if_pos ⟨c.1, c.2.1, c.2.2, v⟩]
    rw [this, if_pos (by omega)]; rfl
   ·have : oneP n b0 b1 b2 b3 = none := by unfold oneP; rw [if_neg k0, if_neg k1, if_neg k2, if_pos k3, if_neg (fun h => v h.2.2.2)]
    rw [this, if_neg (by omega)]; rfl
  ·have : oneP n b0 b1 b2 b3 = none := by unfold oneP; rw [if_neg k0, if_neg k1, if_neg k2, if_pos k3, if_neg (fun h => c ⟨h.1, h.2.1, h.2.2.1⟩)]
   rw [this, if_neg (by omega), if_neg (by omega)]; rfl
 rw [if_neg (by omega), if_neg (by omega)]
 by_cases k4 : b0 < 245
 ·by_cases c : 3 < n ∧ (128 ≤ b1 ∧ b1 ≤ 191) ∧ (128 ≤ b2 ∧ b2 ≤ 191) ∧ (128 ≤ b3 ∧ b3 ≤ 191)
  ·have e : b0 % 8 * 262144 + b1 % 64 * 4096 + b2 % 64 * 64 + b3 % 64 = (b0 - 240) * 262144 + (b1 - 128) * 4096 + (b2 - 128) * 64 + (b3 - 128) := by omega
   rw [if_pos (by omega), e]
   by_cases v : 65536 ≤ (b0 - 240) * 262144 + (b1 - 128) * 4096 + (b2 - 128) * 64 + (b3 - 128) ∧ (b0 - 240) * 262144 + (b1 - 128) * 4096 + (b2 - 128) * 64 + (b3 - 128) ≤ 1114111
   ·have : oneP n b0 b1 b2 b3 = some ((b0 - 240) * 262144 + (b1 - 128) * 4096 + (b2 - 128) * 64 + (b3 - 128), 4) := by unfold oneP; rw [if_neg k0, if_neg k1, if_neg k2, if_neg k3, if_pos k4, if_pos ⟨c.1, c.2.1, c.2.2.1, c.2.2.2, v⟩]
    rw [this, if_pos (by omega)]; rfl
   ·have : oneP n b0 b1 b2 b3 = none := by unfold oneP; rw [if_neg k0, if_neg k1, if_neg k2, if_neg k3, if_pos k4, if_neg (fun h => v h.2.2.2.2)]
    rw [this, if_neg (by omega)]; rfl
  ·have : oneP n b0 b1 b2 b3 = none := by unfold oneP; rw [if_neg k0, if_neg k1, if_neg k2, if_neg k3, if_pos k4, if_neg (fun h => c ⟨h.1, h.2.1, h.2.2.1, h.2.2.2.1⟩)]
   rw [this, if_neg (by omega)]; rfl
 ·have : oneP n b0 b1 b2 b3 = none := by unfold oneP; rw [if_neg k0, if_neg k1, if_neg k2, if_neg k3, if_neg k4]
  rw [this]
  split
  ·rw [if_neg (by omega)]; rfl
  ·rfl
theorem oneN_P : ∀ (l : List Nat), l ≠ [] → oneN l = oneP l.length ((l[0]?).getD 0) ((l[1]?).getD 0) ((l[2]?).getD 0) ((l[3]?).getD 0)
 | [], h => (h rfl).elim
 | [b0], _ => by simp [oneN, oneP]
 | [b0, b1], _ => by simp [oneN, oneP]
 | [b0, b1, b2], _ => by simp [oneN, oneP]
 | b0 :: b1 :: b2 :: b3 :: r, _ => by simp [oneN, oneP]
theorem decodeN_one (l : List Nat) (hne : l ≠ []) (hl : ∀ x ∈ l, x < 256) : Lib.decodeN l.length ((l[0]?).getD 0) ((l[1]?).getD 0) ((l[2]?).getD 0) ((l[3]?).getD 0) = orBad (oneN l) := by
 have hk : ∀ k : Nat, (l[k]?).getD 0 < 256 := by
  intro k
  cases hq : l[k]? with
  | none => decide
  | some x => exact hl x (List.mem_of_getElem? hq)
 rw [oneN_P l hne, decodeN_P _ _ _ _ _ (hk 0) (hk 1) (hk 2) (hk 3)]
theorem decode_one (s : ByteArray) (i : Nat) (hi : i < s.size) : Utf8.decode s i = orBad (oneN ((bytN s).drop i)) := by
 rw [Lib.decode_at]
 have hlen : ((bytN s).drop i).length = s.size - i := by rw [List.length_drop, bytN_len]
 have e0 := get_byt s i 0
 have e1 := get_byt s i 1
 have e2 := get_byt s i 2
 have e3 := get_byt s i 3
 rw [Nat.add_zero] at e0
 rw [e0, e1, e2, e3, ← hlen]
 refine decodeN_one _ (fun h => ?_) (fun x hx => bytN_lt s x (List.mem_of_mem_drop hx))
 have h2 := congrArg List.length h
 rw [hlen] at h2
 simp only [List.length_nil] at h2
 omega
inductive One : List Nat → Nat → Nat → Prop
 | w1 (b0 : Nat) (r : List Nat) (h : b0 < 128) : One (b0 :: r) b0 1
 | w2 (b0 b1 : Nat) (r : List Nat) (h : 194 ≤ b0 ∧ b0 < 224) (h1 : 128 ≤ b1 ∧ b1 ≤ 191) : One (b0 :: b1 :: r) ((b0 - 192) * 64 + (b1 - 128)) 2
 | w3 (b0 b1 b2 : Nat) (r : List Nat) (h : 224 ≤ b0 ∧ b0 < 240) (h1 : 128 ≤ b1 ∧ b1 ≤ 191) (h2 : 128 ≤ b2 ∧ b2 ≤ 191)
   (h3 : 2048 ≤ (b0 - 224) * 4096 + (b1 - 128) * 64 + (b2 - 128) ∧ ((b0 - 224) * 4096 + (b1 - 128) * 64 + (b2 - 128) < 55296 ∨ 57344 ≤ (b0 - 224) * 4096 + (b1 - 128) * 64 + (b2 - 128))) :
   One (b0 :: b1 :: b2 :: r) ((b0 - 224) * 4096 + (b1 - 128) * 64 + (b2 - 128)) 3
 | w4 (b0 b1 b2 b3 : Nat) (r : List Nat) (h : 240 ≤ b0 ∧ b0 < 245) (h1 : 128 ≤ b1 ∧ b1 ≤ 191) (h2 : 128 ≤ b2 ∧ b2 ≤ 191) (h3 : 128 ≤ b3 ∧ b3 ≤ 191)
   (h4 : 65536 ≤ (b0 - 240) * 262144 + (b1 - 128) * 4096 + (b2 - 128) * 64 + (b3 - 128) ∧ (b0 - 240) * 262144 + (b1 - 128) * 4096 + (b2 - 128) * 64 + (b3 - 128) ≤ 1114111) :
   One (b0 :: b1 :: b2 :: b3 :: r) ((b0 - 240) * 262144 + (b1 - 128) * 4096 + (b2 - 128) * 64 + (b3 - 128)) 4
theorem oneN_One {l : List Nat} {p w : Nat} (h : oneN l = some (p, w)) : One l p w := by
 unfold oneN at h
 split at h
 ·cases h
 ·rename_i b0 r
  split at h
  ·cases h; exact .w1 _ _ (by assumption)
  ·split at h
   ·cases h
   ·split at h
    ·split at h
     ·split at h
      ·rename_i hc; simp only [Option.some.injEq, Prod.mk.injEq] at h; obtain ⟨rfl, rfl⟩ := h; exact .w2 _ _ _ ⟨by omega, by omega⟩ hc
      ·cases h
     ·cases h
    ·split at h
     ·split at h
      ·split at h
       ·rename_i hc; simp only [Option.some.injEq, Prod.mk.injEq] at h; obtain ⟨rfl, rfl⟩ := h; exact .w3 _ _ _ _ ⟨by omega, by omega⟩ hc.1 hc.2.1 hc.2.2
       ·cases h
      ·cases h
     ·split at h
      ·split at h
       ·split at h
        ·rename_i hc; simp only [Option.some.injEq, Prod.mk.injEq] at h; obtain ⟨rfl, rfl⟩ := h; exact .w4 _ _ _ _ _ ⟨by omega, by omega⟩ hc.1 hc.2.1 hc.2.2.1 hc.2.2.2
        ·cases h
       ·cases h
      ·cases h
theorem One.app {a b : List Nat} {p w : Nat} (h : One a p w) : One (a ++ b) p w := by
 cases h with
 | w1 b0 r h => exact .w1 _ _ h
 | w2 b0 b1 r h h1 => exact .w2 _ _ _ h h1
 | w3 b0 b1 b2 r h h1 h2 h3 => exact .w3 _ _ _ _ h h1 h2 h3
 | w4 b0 b1 b2 b3 r h h1 h2 h3 h4 => exact .w4 _ _ _ _ _ h h1 h2 h3 h4
theorem oneN_w {l : List Nat} {p w : Nat} (h : oneN l = some (p, w)) : 1 ≤ w ∧ w ≤ 4 ∧ w ≤ l.length ∧ p ≤ 1114111 ∧ (w = 1 → p < 128) ∧ (w = 2 → 128 ≤ p ∧ p < 2048) ∧ (w = 3 → 2048 ≤ p ∧ p < 65536) ∧ (w = 4 → 65536 ≤ p) := by
 cases oneN_One h with
 | w1 b0 r h => simp only [List.length_cons]; omega
 | w2 b0 b1 r h h1 => simp only [List.length_cons]; omega
 | w3 b0 b1 b2 r h h1 h2 h3 => simp only [List.length_cons]; omega
 | w4 b0 b1 b2 b3 r h h1 h2 h3 h4 => simp only [List.length_cons]; omega
theorem bytN_extract (s : ByteArray) (i j : Nat) : bytN (s.extract i j) = ((bytN s).drop i).take (j - i) := by
 unfold bytN
 rw [ByteArray.data_extract, Array.toList_extract]
 simp only [List.extract_eq_take_drop, List.map_take, List.map_drop]
def castL (L : List Nat) : List Int := L.map fun n : Nat => (n : Int)
theorem bytN_all (s : ByteArray) (i : Nat) : bytN (s.extract i s.size) = (bytN s).drop i := by
 rw [bytN_extract, List.take_of_length_le (by rw [List.length_drop, bytN_len]; omega)]
theorem castL_len (L : List Nat) : (castL L).length = L.length := by unfold castL; rw [List.length_map]
def specL : List Nat := [40, 41, 91, 93, 124, 38, 45, 42, 43, 63, 123, 125, 44, 92]
def signs (p : Nat) : List Nat := if specL.contains p then [92, p] else [p]
theorem ix_spec : ∀ p : Nat, p < 128 → decide (Lib.indexByte (⟨#[40, 41, 91, 93, 124, 38, 45, 42, 43, 63, 123, 125, 44, 92]⟩ : ByteArray).data.toList (IntKind.u8.wrap (p : Int)).toNat.toUInt8 ≥ 0) = specL.contains p := by decide +kernel
theorem spec_big (p : Nat) (h : ¬ p < 128) : specL.contains p = false := by
 simp only [specL, List.contains_eq_any_beq, List.any_cons, List.any_nil, Bool.or_false, Bool.or_eq_false_iff, beq_eq_false_iff_ne, ne_eq]
 omega
theorem P24.ext {a b : P24} (h : ep24 a = ep24 b) : a = b := Subtype.ext h
theorem P24.con_vw (p : P24) : P24.con p.vw = p := P24.ext (ep24_vw p).symm
theorem eI_inj : ∀ {a b : List Int}, a.map eI = b.map eI → a = b
 | [], [], _ => rfl
 | x :: r, y :: s, h => by
  simp only [List.map_cons, List.cons.injEq] at h
  have h1 : x = y := by have := h.1; unfold eI at this; injection this
  rw [h1, eI_inj h.2]
 | [], _ :: _, h => by cases h
 | _ :: _, [], h => by cases h
theorem ep24_inj : ∀ {a b : List P24}, a.map ep24 = b.map ep24 → a = b
 | [], [], _ => rfl
 | x :: r, y :: s, h => by
  simp only [List.map_cons, List.cons.injEq] at h
  rw [P24.ext h.1, ep24_inj h.2]
 | [], _ :: _, h => by cases h
 | _ :: _, [], h => by cases h
theorem e24_inj {a b : S24} (h : e24 a = e24 b) : a = b := by
 obtain ⟨a1, a2, a3, a4, a5⟩ := a
 obtain ⟨b1, b2, b3, b4, b5⟩ := b
 unfold e24 vI vP at h
 simp only [V.agg.injEq, List.cons.injEq, V.int.injEq, true_and, V.sl.injEq, and_true] at h
 obtain ⟨rfl, h2, h3, rfl, rfl⟩ := h
 rw [eI_inj h2, ep24_inj h3]
theorem P24.vw_con (s : S24) : (P24.con s).vw = s := e24_inj (ep24_vw (P24.con s)).symm
def F2 {α β : Type} (R : α → β → Prop) : List α → List β → Prop
 | [], [] => True
 | x :: r, y :: s => R x y ∧ F2 R r s
 | _, _ => False
def okC (x : Int) : Prop := 1 ≤ x ∧ x ≤ 1114111 ∧ (x < 55296 ∨ 57343 < x)
def LabOk (l : List Int) : Prop := l.length ≤ 300 ∧ (∀ x ∈ l, okC x) ∧ l.Pairwise (· < ·)
def OkN (p : S24) : Prop :=
 LabOk p.fLabels ∧ (p.fKind = 2 ↔ p.fLabels ≠ []) ∧
 ((p.fKind = 1 ∨ p.fKind = 2) ∧ p.fSubs.length = 0 ∧ p.fLeast = 0 ∧ p.fMost = 0 ∨
  (p.fKind = 3 ∨ p.fKind = 4) ∧ 2 ≤ p.fSubs.length ∧ p.fLeast = 0 ∧ p.fMost = 0 ∨
  p.fKind = 5 ∧ p.fSubs.length = 1 ∧ 0 ≤ p.fLeast ∧ p.fLeast ≤ 9 ∧ -1 ≤ p.fMost ∧ p.fMost ≤ 9 ∧ (0 ≤ p.fMost → p.fLeast ≤ p.fMost) ∨
  (p.fKind = 6 ∨ p.fKind = 7) ∧ p.fSubs.length = 2 ∧ p.fLeast = 0 ∧ p.fMost = 0)
def Gd : Nat → S24 → Nat → Prop
 | 0, _, _ => False
 | r + 1, p, n => OkN p ∧ ∃ ns, F2 (fun q k => Gd r (P24.vw q) k) p.fSubs ns ∧ n = 1 + ns.sum
theorem f37_eq (m : Nat) (x : Int) : ∃ b, f37 m x = some b ∧ (b = true ↔ okC x) := by
 unfold f37 f37_r2 f37_r1
 refine ⟨_, rfl, ?_⟩
 simp only [Bool.and_eq_true, Bool.or_eq_true, decide_eq_true_eq, okC]
 omega
theorem lab_loop (m : Nat) (K : Rec21) (k : Nat) (hk : k < 1000) (p : S24) (hl : p.fLabels.length ≤ 300) : ∀ (M i : Nat), i ≤ p.fLabels.length → p.fLabels.length < M + i →
  (∀ x ∈ p.fLabels.take i, okC x) → (p.fLabels.take i).Pairwise (· < ·) →
  ∃ o, iter (fun (y : Int) => f21_B2 m K (⟨(k : Int)⟩ : S45) p y) M (i : Int) = some o ∧
   (∀ z, o = .inr z → (∀ x ∈ p.fLabels, okC x) ∧ p.fLabels.Pairwise (· < ·)) ∧ (∀ r, o = .inl r → r.1.fCode ≠ 0 ∧ r.2 = (⟨((k + 1 : Nat) : Int)⟩ : S45))
 | 0, i, h1, h2, _, _ => by omega
 | M + 1, i, h1, h2, h3, h4 => by
  have hwk : w64 ((k : Int) + 1) = ((k + 1 : Nat) : Int) := by rw [w64_id ⟨by omega, by omega⟩]; omega
  have hwi : w64 ((i : Int) + 1) = ((i + 1 : Nat) : Int) := by rw [w64_id ⟨by omega, by omega⟩]; omega
  unfold iter f21_B2
  rcases Nat.lt_or_ge i p.fLabels.length with hlt | hge
  ·have hx := List.getElem?_eq_getElem hlt
   have e1 : idx p.fLabels (i : Int) = some p.fLabels[i] := by simp [idx, hx]
   obtain ⟨b, hb1, hb2⟩ := f37_eq m p.fLabels[i]
   rw [decide_eq_true (by omega : (i : Int) < (p.fLabels.length : Int)), cnd_true, e1, bnd_some', hb1, bnd_some']
   cases b with
   | false =>
    refine ⟨_, rfl, ⟨fun z hz => (by cases hz), fun r hr => ?_⟩⟩
    cases hr
    exact ⟨(by simp), by simp only [hwk]⟩
   | true =>
    have hok := hb2.1 rfl
    have take1 : p.fLabels.take (i + 1) = p.fLabels.take i ++ [p.fLabels[i]] := by rw [List.take_add_one, hx]; rfl
    have next : (∀ y ∈ p.fLabels.take i, y < p.fLabels[i]) → ∃ o, iter (fun (y : Int) => f21_B2 m K (⟨(k : Int)⟩ : S45) p y) M (w64 ((i : Int) + 1)) = some o ∧
      (∀ z, o = .inr z → (∀ x ∈ p.fLabels, okC x) ∧ p.fLabels.Pairwise (· < ·)) ∧ (∀ r, o = .inl r → r.1.fCode ≠ 0 ∧ r.2 = (⟨((k + 1 : Nat) : Int)⟩ : S45)) := by
     intro hlast
     rw [hwi]
     refine lab_loop m K k hk p hl M (i + 1) hlt (by omega) (fun x hx' => ?_) ?_
     ·rw [take1, List.mem_append] at hx'
      rcases hx' with hx' | hx'
      ·exact h3 x hx'
      ·rw [List.mem_singleton.1 hx']; exact hok
     ·rw [take1, List.pairwise_append]
      exact ⟨h4, List.pairwise_singleton _ _, fun a ha b hb => by rw [List.mem_singleton.1 hb]; exact hlast a ha⟩
    rw [Bool.not_true, cnd_false]
    by_cases h0 : i = 0
    ·subst h0
     rw [decide_eq_false (by omega : ¬ (((0 : Nat) : Int) > 0)), cnd_false, bnd_some']
     unfold f21_r1
     rw [cnd_false]
     exact next fun y hy => by simp at hy
    ·obtain ⟨j, rfl⟩ : ∃ j, i = j + 1 := ⟨i - 1, by omega⟩
     have e0 : w64 (((j + 1 : Nat) : Int) - 1) = (j : Int) := by rw [w64_id ⟨by omega, by omega⟩]; omega
     have hj : j < p.fLabels.length := by omega
     have e2 : idx p.fLabels (j : Int) = some p.fLabels[j] := by simp [idx, List.getElem?_eq_getElem hj]
     rw [decide_eq_true (by omega : (((j + 1 : Nat) : Int) > 0)), cnd_true, e0, e2, bnd_some', bnd_some']
     unfold f21_r1
     by_cases hc : p.fLabels[j] < p.fLabels[j + 1]
     ·rw [decide_eq_false (by omega : ¬ (p.fLabels[j] ≥ p.fLabels[j + 1])), cnd_false]
      refine next fun y hy => ?_
      have takej : p.fLabels.take (j + 1) = p.fLabels.take j ++ [p.fLabels[j]] := by rw [List.take_add_one, List.getElem?_eq_getElem hj]; rfl
      rw [takej, List.mem_append] at hy
      rw [takej, List.pairwise_append] at h4
      rcases hy with hy | hy
      ·have := h4.2.2 y hy _ List.mem_cons_self
       omega
      ·rw [List.mem_singleton.1 hy]; exact hc
     ·rw [decide_eq_true (by omega : p.fLabels[j] ≥ p.fLabels[j + 1]), cnd_true]
      refine ⟨_, rfl, ⟨fun z hz => (by cases hz), fun r hr => ?_⟩⟩
      cases hr
      exact ⟨(by simp), by simp only [hwk]⟩
  ·have : i = p.fLabels.length := by omega
   subst this
   rw [decide_eq_false (by omega), cnd_false]
   refine ⟨_, rfl, ⟨fun z hz => ?_, fun r hr => nomatch hr⟩⟩
   rw [List.take_length] at h3 h4
   exact ⟨h3, h4⟩
def Res (k : Nat) (P : Nat → Prop) (o : S27 × S45) : Prop := (o.1 = (⟨0, 0⟩ : S27) ∧ ∃ k' : Nat, o.2 = (⟨(k' : Int)⟩ : S45) ∧ k < k' ∧ k' ≤ 200 ∧ P (k' - k)) ∨ o.1.fCode ≠ 0
theorem sub_loop (m : Nat) (K : Rec21) (r : Nat) (p : S24) (d : Int) (hd : 0 ≤ d ∧ d ≤ 40)
  (hK : ∀ (q : S24) (k : Nat), k ≤ 200 → ∃ o, K.r21 (⟨(k : Int)⟩ : S45) q (d + 1) = some o ∧ Res k (Gd r q) o) : ∀ (M i k : Nat), i ≤ p.fSubs.length → i ≤ k → k ≤ 200 → 201 - k < M →
  ∃ o, iter (fun (y : Int × Int) => f21_B3 m K p d y.1 y.2) M ((i : Int), (k : Int)) = some o ∧
   (∀ z, o = .inr z → ∃ ns k', z.2 = ((k' : Nat) : Int) ∧ k ≤ k' ∧ k' ≤ 200 ∧ F2 (fun q n => Gd r (P24.vw q) n) (p.fSubs.drop i) ns ∧ k' = k + ns.sum) ∧ (∀ x, o = .inl x → x.1.fCode ≠ 0)
 | 0, i, k, _, _, _, h => by omega
 | M + 1, i, k, h1, hik, h2, h3 => by
  have hwd : w64 (d + 1) = d + 1 := w64_id ⟨by omega, by omega⟩
  unfold iter f21_B3
  dsimp only
  rw [hwd]
  rcases Nat.lt_or_ge i p.fSubs.length with hlt | hge
  ·have hx := List.getElem?_eq_getElem hlt
   have e1 : idx p.fSubs (i : Int) = some p.fSubs[i] := by simp [idx, hx]
   obtain ⟨⟨f, c⟩, g1, g2⟩ := hK p.fSubs[i].vw k h2
   rw [decide_eq_true (by omega : (i : Int) < (p.fSubs.length : Int)), cnd_true, e1, bnd_some', g1, bnd_some']
   rcases g2 with ⟨rfl, k', rfl, g3, g4, g5⟩ | g2
   ·have : (!(((⟨0, 0⟩ : S27).fCode == 0) && (((⟨0, 0⟩ : S27).fIndex == 0) && true))) = false := rfl
    rw [this, cnd_false]
    have hi : (i : Int) + 1 = ((i + 1 : Nat) : Int) := by omega
    have hwi : w64 ((i : Int) + 1) = ((i + 1 : Nat) : Int) := by rw [w64_id ⟨by omega, by omega⟩]; omega
    obtain ⟨o, q1, q2, q3⟩ := sub_loop m K r p d hd hK M (i + 1) k' hlt (by omega) g4 (by omega)
    refine ⟨o, ?_, fun z hz => ?_, q3⟩
    ·show iter _ M (w64 ((i : Int) + 1), (k' : Int)) = _
     rw [hwi]
     unfold f21_B3 at q1
     rw [hwd] at q1
     exact q1
    ·obtain ⟨ns, k2, w1, w2, w3, w4, w5⟩ := q2 z hz
     refine ⟨(k' - k) :: ns, k2, w1, by omega, w3, ?_, by rw [List.sum_cons]; omega⟩
     rw [List.drop_eq_getElem_cons hlt]
     exact ⟨g5, w4⟩
   ·have : (!((f.fCode == 0) && ((f.fIndex == 0) && true))) = true := by
     have : (f.fCode == 0) = false := by simpa using g2
     rw [this]; rfl
    rw [this, cnd_true]
    refine ⟨_, rfl, ⟨fun z hz => (by cases hz), fun x hx => ?_⟩⟩
    cases hx
    exact g2
  ·have : i = p.fSubs.length := by omega
   subst this
   rw [decide_eq_false (by omega), cnd_false]
   refine ⟨_, rfl, ⟨fun z hz => ?_, fun x hx => (by cases hx)⟩⟩
   cases hz
   refine ⟨[], k, rfl, Nat.le_refl _, h2, ?_, by simp⟩
   rw [List.drop_length]
   trivial
theorem nz {k : Nat} {c : Int} (h : c ≠ 0) (P : Nat → Prop) (x : Int) (y : S45) : Res k P ((⟨c, x⟩ : S27), y) := .inr h
theorem chk (m : Nat) (hm : 1000 ≤ m) : ∀ (r R : Nat) (d : Int) (k : Nat) (p : S24), r < R → d + r = 41 → 0 ≤ d → k ≤ 200 → ∃ o, (K21 m R).r21 (⟨(k : Int)⟩ : S45) p d = some o ∧ Res k (Gd r p) o
 | r, 0, d, k, p, h, _, _, _ => by omega
 | 0, R + 1, d, k, p, h1, h2, h3, h4 => by
  have e : b21 m (K21 m R) (⟨(k : Int)⟩ : S45) p d = some ((⟨2, (k : Int)⟩ : S27), (⟨w64 ((k : Int) + 1)⟩ : S45)) := by
   unfold b21 f21_r19
   have : decide (d > 40) = true := decide_eq_true (by omega)
   rw [this, Bool.or_true, cnd_true]
   rfl
  exact ⟨_, e, nz (by decide) _ _ _⟩
 | r + 1, R + 1, d, k, p, h1, h2, h3, h4 => by
  have hwk : w64 ((k : Int) + 1) = ((k + 1 : Nat) : Int) := by rw [w64_id ⟨by omega, by omega⟩]; omega
  show ∃ o, b21 m (K21 m R) (⟨(k : Int)⟩ : S45) p d = some o ∧ _
  unfold b21
  by_cases hk : k + 1 > 200
  ·have : decide (w64 ((⟨(k : Int)⟩ : S45).fNodes + 1) > 200) = true := decide_eq_true (by show w64 ((k : Int) + 1) > 200; rw [hwk]; omega)
   rw [this, Bool.true_or]
   exact ⟨_, rfl, nz (by decide) _ _ _⟩
  ·have e1 : decide (w64 ((⟨(k : Int)⟩ : S45).fNodes + 1) > 200) = false := decide_eq_false (by show ¬ w64 ((k : Int) + 1) > 200; rw [hwk]; omega)
   have e2 : decide (d > 40) = false := decide_eq_false (by omega)
   rw [e1, e2, Bool.or_false]
   -- the loops
   have subs : ∀ (h : OkN p), ∃ o, f21_j4 m (K21 m R) (⟨(k : Int)⟩ : S45) p d = some o ∧ Res k (Gd (r + 1) p) o := by
    intro hok
    unfold f21_j4
    show ∃ o, brk (iter _ m (0, w64 ((k : Int) + 1))) _ _ = _ ∧ _
    rw [hwk]
    obtain ⟨o, q1, q2, q3⟩ := sub_loop m (K21 m R) r p d ⟨h3, by omega⟩ (fun q k' hk' => chk m hm r R (d + 1) k' q (by omega) (by omega) (by omega) hk') m 0 (k + 1) (Nat.zero_le _) (Nat.zero_le _) (by omega) (by omega)
    have q1 : iter (fun (y : Int × Int) => f21_B3 m (K21 m R) p d y.1 y.2) m (0, ((k + 1 : Nat) : Int)) = some o := q1
    rw [q1]
    cases o with
    | inl x => exact ⟨x, rfl, .inr (q3 x rfl)⟩
    | inr z =>
     obtain ⟨ns, k', w1, w2, w3, w4, w5⟩ := q2 z rfl
     refine ⟨_, rfl, .inl ⟨rfl, k', by show (⟨z.2⟩ : S45) = _; rw [w1], by omega, w3, hok, ns, by simpa using w4, by omega⟩⟩
   have labs : ∀ c : Int, ((p.fSubs.length : Int) = c) → (p.fKind = 2 ↔ p.fLabels ≠ []) → p.fLabels.length ≤ 300 → (p.fKind ≠ 5 → p.fLeast = 0 → p.fMost = 0 → LabOk p.fLabels → OkN p) →
     (p.fKind = 5 → 0 ≤ p.fLeast → p.fLeast ≤ 9 → -1 ≤ p.fMost → p.fMost ≤ 9 → (0 ≤ p.fMost → p.fLeast ≤ p.fMost) → LabOk p.fLabels → OkN p) →
     ∃ o, f21_r10 m (K21 m R) (⟨(k : Int)⟩ : S45) p d false = some o ∧ Res k (Gd (r + 1) p) o := by
    intro c hc hset hlen hA hB
    unfold f21_r10
    rw [cnd_false]
    obtain ⟨o, q1, q2, q3⟩ := lab_loop m (K21 m R) k (by omega) p hlen m 0 (Nat.zero_le _) (by omega) (by simp) (by simp)
    have q1 : iter (fun (y : Int) => f21_B2 m (K21 m R) (⟨(k : Int)⟩ : S45) p y) m 0 = some o := q1
    rw [q1]
    cases o with
    | inl x => exact ⟨x, rfl, .inr (q3 x rfl).1⟩
    | inr z =>
     have hlab : LabOk p.fLabels := ⟨hlen, q2 z rfl⟩
     rw [brk_inr]
     by_cases h5 : p.fKind = 5
     ·have e5 : (p.fKind == 5) = true := by simpa using h5
      rw [e5, cnd_true]
      unfold f21_r8 f21_r7 f21_r6
      by_cases hr : p.fLeast < 0 ∨ p.fLeast > 9 ∨ p.fMost < -1 ∨ p.fMost > 9
      ·have : (((decide (p.fLeast < 0) || decide (p.fLeast > 9)) || decide (p.fMost < -1)) || decide (p.fMost > 9)) = true := by
        simp only [Bool.or_eq_true, decide_eq_true_eq]; omega
       rw [this, cnd_true]
       exact ⟨_, rfl, nz (by decide) _ _ _⟩
      ·have : (((decide (p.fLeast < 0) || decide (p.fLeast > 9)) || decide (p.fMost < -1)) || decide (p.fMost > 9)) = false := by
        simp only [Bool.or_eq_false_iff, decide_eq_false_iff_not]; omega
       rw [this, cnd_false]
       unfold f21_r5
       by_cases ho : 0 ≤ p.fMost ∧ p.fMost < p.fLeast
       ·have : (decide (p.fMost ≥ 0) && decide (p.fMost < p.fLeast)) = true := by simp only [Bool.and_eq_true, decide_eq_true_eq]; omega
        rw [this, cnd_true]
        exact ⟨_, rfl, nz (by decide) _ _ _⟩
       ·have : (decide (p.fMost ≥ 0) && decide (p.fMost < p.fLeast)) = false := by
         rw [Bool.and_eq_false_iff, decide_eq_false_iff_not, decide_eq_false_iff_not]; omega
        rw [this, cnd_false]
        exact subs (hB h5 (by omega) (by omega) (by omega) (by omega) (by omega) hlab)
     ·have e5 : (p.fKind == 5) = false := by simpa using h5
      rw [e5, cnd_false]
      unfold f21_r9
      by_cases hz : p.fLeast = 0 ∧ p.fMost = 0
      ·have : ((p.fLeast != 0) || (p.fMost != 0)) = false := by simp [hz.1, hz.2]
       rw [this, cnd_false]
       exact subs (hA h5 hz.1 hz.2 hlab)
      ·have : ((p.fLeast != 0) || (p.fMost != 0)) = true := by
        simp only [Bool.or_eq_true, bne_iff_ne, ne_eq]; omega
       rw [this, cnd_true]
       exact ⟨_, rfl, nz (by decide) _ _ _⟩
   have counts : ∀ c : Int, (((p.fSubs.length : Int) = c) → (p.fKind = 2 ↔ p.fLabels ≠ []) → p.fLabels.length ≤ 300 → ∃ o, f21_r10 m (K21 m R) (⟨(k : Int)⟩ : S45) p d false = some o ∧ Res k (Gd (r + 1) p) o) → ∀ b,
     ∃ o, f21_j12 m (K21 m R) (⟨(k : Int)⟩ : S45) p d c b = some o ∧ Res k (Gd (r + 1) p) o := by
    intro c hgo b
    unfold f21_j12 f21_r11
    by_cases hbad : (((((p.fSubs.length : Int) != c) || (!((p.fKind == 2) == (decide ((p.fLabels.length : Int) > 0))))) || decide ((p.fLabels.length : Int) > 300))) = true
    ·rw [hbad]
     unfold f21_r10
     exact ⟨_, rfl, nz (by decide) _ _ _⟩
    ·have hb := Bool.eq_false_iff.2 hbad
     rw [hb]
     simp only [Bool.or_eq_false_iff, bne_eq_false_iff_eq, Bool.not_eq_false', decide_eq_false_iff_not, beq_iff_eq] at hb
     obtain ⟨⟨c1, c2⟩, c3⟩ := hb
     refine hgo c1 ?_ (by omega)
     have : (p.fKind == 2) = decide ((p.fLabels.length : Int) > 0) := c2
     constructor
     ·intro h
      have h2 : decide ((p.fLabels.length : Int) > 0) = true := by rw [← this]; simpa using h
      intro h0
      rw [h0] at h2
      cases h2
     ·intro h
      have h2 : decide ((p.fLabels.length : Int) > 0) = true := decide_eq_true (by have := List.length_pos_iff.2 h; omega)
      rw [h2] at this
      simpa using this
   -- the kinds
   have kinds : ∀ z : Int, p.fKind = z → ((p.fKind == z) = true) := fun z h => by simpa using h
   have nk : ∀ z : Int, p.fKind ≠ z → ((p.fKind == z) = false) := fun z h => by simpa using h
   have goA : ∀ c : Int, (((p.fSubs.length : Int) = c) → (p.fKind = 2 ↔ p.fLabels ≠ []) → p.fKind ≠ 5 → p.fLeast = 0 → p.fMost = 0 → LabOk p.fLabels → OkN p) → p.fKind ≠ 5 → ∀ b, ∃ o, f21_j12 m (K21 m R) (⟨(k : Int)⟩ : S45) p d c b = some o ∧ Res k (Gd (r + 1) p) o := by
    intro c hA h5
    exact counts c fun c1 c2 c3 => labs c c1 c2 c3 (fun g1 g2 g3 g4 => hA c1 c2 g1 g2 g3 g4) (fun h => absurd h h5)
   unfold f21_r19
   rw [cnd_false]
   by_cases k1 : p.fKind = 1
   ·rw [kinds 1 k1, cnd_true]
    exact goA 0 (fun c1 c2 _ g2 g3 g4 => ⟨g4, c2, .inl ⟨.inl k1, by omega, g2, g3⟩⟩) (by omega) true
   rw [nk 1 k1, cnd_false]
   by_cases k2 : p.fKind = 2
   ·rw [kinds 2 k2]
    exact goA 0 (fun c1 c2 _ g2 g3 g4 => ⟨g4, c2, .inl ⟨.inr k2, by omega, g2, g3⟩⟩) (by omega) true
   rw [nk 2 k2]
   unfold f21_j18
   rw [cnd_false]
   have two : (p.fKind = 3 ∨ p.fKind = 4) → ∃ o, f21_j14 m (K21 m R) (⟨(k : Int)⟩ : S45) p d false (if (p.fSubs.length : Int) > 2 then (p.fSubs.length : Int) else 2) = some o ∧ Res k (Gd (r + 1) p) o := by
    intro h34
    refine goA _ (fun c1 c2 _ g2 g3 g4 => ⟨g4, c2, .inr (.inl ⟨h34, ?_, g2, g3⟩)⟩) (by omega) false
    split at c1 <;> omega
   by_cases k3 : p.fKind = 3
   ·rw [kinds 3 k3, cnd_true]
    exact two (.inl k3)
   rw [nk 3 k3, cnd_false]
   by_cases k4 : p.fKind = 4
   ·rw [kinds 4 k4]
    exact two (.inr k4)
   rw [nk 4 k4]
   unfold f21_j17
   rw [cnd_false]
   by_cases k5 : p.fKind = 5
   ·rw [kinds 5 k5, cnd_true]
    exact counts 1 (fun c1 c2 c3 => labs 1 c1 c2 c3 (fun h => absurd k5 h) (fun _ g1 g2 g3 g4 g5 g6 => ⟨g6, c2, .inr (.inr (.inl ⟨k5, by omega, g1, g2, g3, g4, g5⟩))⟩)) false
   rw [nk 5 k5, cnd_false]
   by_cases k6 : p.fKind = 6
   ·rw [kinds 6 k6, cnd_true]
    exact goA 2 (fun c1 c2 _ g2 g3 g4 => ⟨g4, c2, .inr (.inr (.inr ⟨.inl k6, by omega, g2, g3⟩))⟩) (by omega) false
   rw [nk 6 k6, cnd_false]
   by_cases k7 : p.fKind = 7
   ·rw [kinds 7 k7]
    exact goA 2 (fun c1 c2 _ g2 g3 g4 => ⟨g4, c2, .inr (.inr (.inr ⟨.inr k7, by omega, g2, g3⟩))⟩) (by omega) false
   rw [nk 7 k7]
   exact ⟨_, rfl, nz (by decide) _ _ _⟩
theorem f9_eq (m : Nat) (hm : 1000 ≤ m) (p : S24) : ∃ f, f9 m p = some f ∧ ((f = (⟨0, 0⟩ : S27) ∧ ∃ n, n ≤ 200 ∧ Gd 40 p n) ∨ f.fCode ≠ 0) := by
 obtain ⟨o, h1, h2⟩ := chk m hm 40 m 1 0 p (by omega) (by omega) (by omega) (by omega)
 have h1 : f21 m (⟨0⟩ : S45) p 1 = some o := h1
 refine ⟨o.1, by unfold f9; rw [h1]; rfl, ?_⟩
 rcases h2 with ⟨e, k', _, _, h3, h4⟩ | h
 ·exact .inl ⟨e, _, by omega, h4⟩
 ·exact .inr h
theorem Gd.pos : ∀ {r : Nat} {p : S24} {n : Nat}, Gd r p n → 1 ≤ n
 | 0, _, _, h => h.elim
 | r + 1, p, n, ⟨_, ns, _, h⟩ => by omega
theorem F2.len {α β : Type} {R : α → β → Prop} : ∀ {a : List α} {b : List β}, F2 R a b → a.length = b.length
 | [], [], _ => rfl
 | _ :: _, _ :: _, h => by rw [List.length_cons, List.length_cons, F2.len h.2]
 | [], _ :: _, h => h.elim
 | _ :: _, [], h => h.elim
theorem F2.sum {R : P24 → Nat → Prop} (hR : ∀ q n, R q n → 1 ≤ n) : ∀ {a : List P24} {b : List Nat}, F2 R a b → a.length ≤ b.sum
 | [], [], _ => Nat.le_refl _
 | _ :: _, _ :: _, h => by
  have := F2.sum hR h.2
  have := hR _ _ h.1
  rw [List.length_cons, List.sum_cons]; omega
 | [], _ :: _, h => h.elim
 | _ :: _, [], h => h.elim
theorem F2.mem {R : P24 → Nat → Prop} : ∀ {a : List P24} {b : List Nat}, F2 R a b → ∀ q ∈ a, ∃ k, R q k ∧ k ≤ b.sum
 | [], _, _, q, h => by cases h
 | x :: a, y :: b, h, q, hq => by
  rcases List.mem_cons.1 hq with rfl | hq
  ·exact ⟨y, h.1, by rw [List.sum_cons]; omega⟩
  ·obtain ⟨k, h1, h2⟩ := F2.mem h.2 q hq
   exact ⟨k, h1, by rw [List.sum_cons]; omega⟩
 | _ :: _, [], h, _, _ => h.elim
def st (l : List Nat) (i : Nat) : S58 := ⟨castL l, (i : Int)⟩
def Cut (l : List Nat) (i : Nat) (t : List Nat) : Prop := l.drop i = t ∧ i ≤ l.length ∧ l.length ≤ 4000
theorem Cut.lt {l : List Nat} {i x : Nat} {r : List Nat} (h : Cut l i (x :: r)) : i < l.length := by
 rcases Nat.lt_or_ge i l.length with g | g
 ·exact g
 ·have := h.1
  rw [List.drop_eq_nil_iff.2 g] at this
  cases this
theorem Cut.idx {l : List Nat} {i x : Nat} {r : List Nat} (h : Cut l i (x :: r)) : Abs.idx (castL l) (i : Int) = some (x : Int) := by
 have h1 := h.1
 rw [List.drop_eq_getElem_cons h.lt, List.cons.injEq] at h1
 simp [Abs.idx, castL, List.getElem?_eq_getElem h.lt, h1.1]
theorem Cut.next {l : List Nat} {i x : Nat} {r : List Nat} (h : Cut l i (x :: r)) : Cut l (i + 1) r := by
 have h1 := h.1
 have hl := h.lt
 rw [List.drop_eq_getElem_cons hl, List.cons.injEq] at h1
 exact ⟨h1.2, hl, h.2.2⟩
theorem Cut.app {l : List Nat} : ∀ {a : List Nat} {i : Nat} {r : List Nat}, Cut l i (a ++ r) → Cut l (i + a.length) r
 | [], i, r, h => by simpa using h
 | x :: a, i, r, h => by
  have := Cut.app (a := a) (Cut.next (x := x) (r := a ++ r) h)
  rw [List.length_cons]
  have e : i + (a.length + 1) = i + 1 + a.length := by omega
  rw [e]
  exact this
theorem Cut.nil {l : List Nat} {i : Nat} (h : Cut l i []) : i = l.length := by
 have := List.drop_eq_nil_iff.1 h.1
 have := h.2.1
 omega
theorem Cut.w {l : List Nat} {i : Nat} {t : List Nat} (h : Cut l i t) : w64 ((i : Int) + 1) = ((i + 1 : Nat) : Int) := by
 have := h.2.1; have := h.2.2
 rw [w64_id ⟨by omega, by omega⟩]; omega
theorem is_eq (m : Nat) {l : List Nat} {i : Nat} {t : List Nat} (h : Cut l i t) (c : Nat) : f46 m (st l i) (c : Int) = some (t.head? == some c) := by
 unfold f46 f46_r1 st
 dsimp only
 rw [castL_len]
 cases t with
 | nil =>
  rw [decide_eq_false (by have := h.nil; omega), cnd_false, bnd_some']
  rfl
 | cons x r =>
  rw [decide_eq_true (by have := h.lt; omega), cnd_true, h.idx, bnd_some', bnd_some']
  have : ((x : Int) == (c : Int)) = (some x == some c) := by
   by_cases e : x = c
   ·subst e; simp
   ·have h1 : ((x : Int) == (c : Int)) = false := by simp; omega
    rw [h1]
    simp [e]
  rw [this]
  rfl
theorem digit_eq (m : Nat) {l : List Nat} {i k : Nat} {r : List Nat} (h : Cut l i ((48 + k) :: r)) (hk : k ≤ 9) : f75 m (st l i) = some (((k : Int), true), st l (i + 1)) := by
 have hw := h.w
 have hl := h.lt
 have h4 := h.2.2
 unfold f75
 show (bnd (cnd ((i : Int) == ((castL l).length : Int)) _ (bnd (idx (castL l) (i : Int)) _)) _) = _
 rw [castL_len, show ((i : Int) == (l.length : Int)) = false by simp; omega, cnd_false, h.idx, bnd_some', decide_eq_false (by omega), bnd_some']
 unfold f75_r2
 rw [cnd_false]
 show (bnd (bnd (idx (castL l) (i : Int)) _) _) = _
 rw [h.idx, bnd_some', decide_eq_false (by omega), bnd_some']
 unfold f75_r1
 rw [cnd_false]
 show (bnd (idx (castL l) (w64 (w64 ((i : Int) + 1) - 1))) _) = _
 rw [hw, show w64 (((i + 1 : Nat) : Int) - 1) = (i : Int) by rw [w64_id ⟨by omega, by omega⟩]; omega, h.idx, bnd_some', show w64 (((48 + k : Nat) : Int) - 48) = (k : Int) by rw [w64_id ⟨by omega, by omega⟩]; omega]
 show some (_, (⟨castL l, w64 ((i : Int) + 1)⟩ : S58)) = _
 rw [hw]
 rfl
def NoOp (t : List Nat) : Prop := ∀ x, t.head? = some x → x ≠ 42 ∧ x ≠ 43 ∧ x ≠ 63 ∧ x ≠ 123
def stopL : List Nat := [41, 93, 124, 38, 45, 42, 43, 63, 123, 125, 44]
def lp (ok : Bool) (l : List Nat) (i : Nat) (p : S24) : Bool × (List Int) × Int × Int × (List Int) × (List P24) × Int × Int := (ok, castL l, (i : Int), p.fKind, p.fLabels, p.fSubs, p.fLeast, p.fMost)
noncomputable def B67 (m : Nat) (K : Rec28) : Bool × (List Int) × Int × Int × (List Int) × (List P24) × Int × Int → Option (Stp ((S24 × Bool) × S58) (Bool × (List Int) × Int × Int × (List Int) × (List P24) × Int × Int)) := fun y => f67_B7 m K y.1 y.2.1 y.2.2.1 y.2.2.2.1 y.2.2.2.2.1 y.2.2.2.2.2.1 y.2.2.2.2.2.2.1 y.2.2.2.2.2.2.2
noncomputable def B45 (m : Nat) (K : Rec28) (d : Int) : Bool × (List Int) × Int × Int × (List Int) × (List P24) × Int × Int → Option (Stp ((S24 × Bool) × S58) (Bool × (List Int) × Int × Int × (List Int) × (List P24) × Int × Int)) := fun y => f45_B3 m K d y.1 y.2.1 y.2.2.1 y.2.2.2.1 y.2.2.2.2.1 y.2.2.2.2.2.1 y.2.2.2.2.2.2.1 y.2.2.2.2.2.2.2
theorem b67_end (m : Nat) (K : Rec28) {l : List Nat} {i : Nat} {t : List Nat} (h : Cut l i t) (hn : NoOp t) (p : S24) (M : Nat) : iter (B67 m K) (M + 1) (lp true l i p) = some (.inr (lp true l i p)) := by
 have e : ∀ c : Nat, (c = 42 ∨ c = 43 ∨ c = 63 ∨ c = 123) → f46 m (⟨castL l, (i : Int)⟩ : S58) (c : Int) = some false := by
  intro c hc
  have := is_eq m h c
  have h2 : (t.head? == some c) = false := by
   cases ht : t.head? with
   | none => rfl
   | some x =>
    have := hn x ht
    have : x ≠ c := by omega
    simp [this]
  rw [h2] at this
  exact this
 have hb : B67 m K (lp true l i p) = some (.brk (lp true l i p)) := by
  show f67_B7 m K true (castL l) (i : Int) p.fKind p.fLabels p.fSubs p.fLeast p.fMost = _
  unfold f67_B7
  have e1 := e 42 (by omega); have e2 := e 43 (by omega); have e3 := e 63 (by omega); have e4 := e 123 (by omega)
  simp only [Int.cast_ofNat_Int] at e1 e2 e3 e4
  rw [cnd_true, e1, bnd_some', cnd_false, e2, bnd_some', cnd_false, e3, bnd_some', cnd_false, e4, bnd_some']
  rfl
 unfold iter
 rw [hb]
def repT (l m : Int) : List Nat :=
 if l = 0 ∧ m < 0 then [42] else if l = 1 ∧ m < 0 then [43] else if l = 0 ∧ m = 1 then [63]
 else [123, 48 + l.toNat, 44] ++ (if 0 ≤ m then [48 + m.toNat] else []) ++ [125]
theorem is_no (m : Nat) {l : List Nat} {i x : Nat} {r : List Nat} (h : Cut l i (x :: r)) (c : Nat) (hc : x ≠ c) : f46 m (⟨castL l, (i : Int)⟩ : S58) (c : Int) = some false := by
 have := is_eq m h c
 have h2 : ((x :: r).head? == some c) = false := by simp [hc]
 rw [h2] at this
 exact this
theorem is_yes (m : Nat) {l : List Nat} {i x : Nat} {r : List Nat} (h : Cut l i (x :: r)) : f46 m (⟨castL l, (i : Int)⟩ : S58) (x : Int) = some true := by
 have := is_eq m h x
 have h2 : ((x :: r).head? == some x) = true := by simp
 rw [h2] at this
 exact this
theorem rep_key (m : Nat) (K : Rec28) {l : List Nat} {i : Nat} {rest : List Nat} (q : S24) (a b : Int) (ha : 0 ≤ a ∧ a ≤ 9) (hb : -1 ≤ b ∧ b ≤ 9) (h : Cut l i (repT a b ++ rest)) :
  B67 m K (lp true l i q) = some (.nxt (lp true l (i + (repT a b).length) (⟨5, [], [P24.con q], a, b⟩ : S24))) := by
 show f67_B7 m K true (castL l) (i : Int) q.fKind q.fLabels q.fSubs q.fLeast q.fMost = _
 unfold f67_B7
 rw [cnd_true]
 unfold repT at h ⊢
 split at h
 ·rename_i h0
  rw [if_pos h0] at *
  have h : Cut l i (42 :: rest) := h
  have e1 := is_yes m h
  simp only [Int.cast_ofNat_Int] at e1
  rw [e1, bnd_some', cnd_true, bnd_some']
  unfold f67_r6
  rw [cnd_true, h.idx, bnd_some']
  show f67_j4 m K _ _ _ _ _ true (castL l) (w64 ((i : Int) + 1)) 0 (-1) = _
  have hb1 : b = -1 := by omega
  rw [h.w, h0.1, hb1]
  rfl
 ·rename_i h0
  rw [if_neg h0] at *
  split at h
  ·rename_i h1
   rw [if_pos h1] at *
   have h : Cut l i (43 :: rest) := h
   have e1 := is_no m h 42 (by decide)
   have e2 := is_yes m h
   simp only [Int.cast_ofNat_Int] at e1 e2
   rw [e1, bnd_some', cnd_false, e2, bnd_some', cnd_true, bnd_some']
   unfold f67_r6
   rw [cnd_true, h.idx, bnd_some']
   show f67_j2 m K _ _ _ _ _ true (castL l) (w64 ((i : Int) + 1)) 1 (-1) = _
   have hb1 : b = -1 := by omega
   rw [h.w, h1.1, hb1]
   rfl
  ·rename_i h1
   rw [if_neg h1] at *
   split at h
   ·rename_i h2
    rw [if_pos h2] at *
    have h : Cut l i (63 :: rest) := h
    have e1 := is_no m h 42 (by decide)
    have e2 := is_no m h 43 (by decide)
    have e3 := is_yes m h
    simp only [Int.cast_ofNat_Int] at e1 e2 e3
    rw [e1, bnd_some', cnd_false, e2, bnd_some', cnd_false, e3, bnd_some', cnd_true, bnd_some']
    unfold f67_r6
    rw [cnd_true, h.idx, bnd_some']
    show f67_j3 m K _ _ _ _ _ true (castL l) (w64 ((i : Int) + 1)) 0 1 = _
    rw [h.w, h2.1, h2.2]
    rfl
   ·rename_i h2
    rw [if_neg h2] at *
    obtain ⟨a', rfl⟩ : ∃ a' : Nat, a = (a' : Int) := ⟨a.toNat, by omega⟩
    rw [Int.toNat_natCast] at *
    have h : Cut l i (123 :: ((48 + a') :: (44 :: ((if 0 ≤ b then [48 + b.toNat] else []) ++ (125 :: rest))))) := by simpa using h
    have e1 := is_no m h 42 (by decide)
    have e2 := is_no m h 43 (by decide)
    have e3 := is_no m h 63 (by decide)
    have e4 := is_yes m h
    have k1 := h.next
    have k2 := k1.next
    have k3 := k2.next
    have d1 := digit_eq m k1 (by omega)
    have i44 := is_yes m k2
    simp only [Int.cast_ofNat_Int] at e1 e2 e3 e4 i44
    rw [e1, bnd_some', cnd_false, e2, bnd_some', cnd_false, e3, bnd_some', cnd_false, e4, bnd_some', bnd_some']
    unfold f67_r6
    rw [cnd_true, h.idx, bnd_some']
    show (bnd (f75 m (⟨castL l, w64 ((i : Int) + 1)⟩ : S58)) fun v928 => _) = _
    have d1' : f75 m (⟨castL l, ((i + 1 : Nat) : Int)⟩ : S58) = some (((a' : Int), true), st l (i + 1 + 1)) := d1
    rw [h.w, d1', bnd_some']
    show (bnd (f46 m (⟨castL l, ((i + 1 + 1 : Nat) : Int)⟩ : S58) 44) fun v929 => _) = _
    rw [i44, bnd_some']
    show (bnd (f46 m (⟨castL l, w64 (((i + 1 + 1 : Nat) : Int) + 1)⟩ : S58) 125) fun v930 => _) = _
    rw [k2.w]
    by_cases hb0 : 0 ≤ b
    ·rw [if_pos hb0] at k3 ⊢
     obtain ⟨b', rfl⟩ : ∃ b' : Nat, b = (b' : Int) := ⟨b.toNat, by omega⟩
     rw [Int.toNat_natCast] at *
     have k3 : Cut l (i + 1 + 1 + 1) ((48 + b') :: 125 :: rest) := k3
     have k4 := k3.next
     have n125 := is_no m k3 125 (by omega)
     have d2 := digit_eq m k3 (by omega)
     have y125 := is_yes m k4
     simp only [Int.cast_ofNat_Int] at n125 y125
     rw [n125, bnd_some']
     show (bnd (f75 m (⟨castL l, w64 (((i + 1 + 1 : Nat) : Int) + 1)⟩ : S58)) fun v959 => _) = _
     have d2' : f75 m (⟨castL l, ((i + 1 + 1 + 1 : Nat) : Int)⟩ : S58) = some (((b' : Int), true), st l (i + 1 + 1 + 1 + 1)) := d2
     rw [k2.w, d2', bnd_some']
     show f67_j5 m K q.fKind q.fLabels q.fSubs q.fLeast q.fMost (((a' : Int), true), st l (i + 1 + 1)) true (castL l) ((i + 1 + 1 + 1 + 1 : Nat) : Int) (b' : Int) = _
     unfold f67_j5
     rw [y125, bnd_some']
     show f67_j4 m K _ _ _ _ _ true (castL l) (w64 (((i + 1 + 1 + 1 + 1 : Nat) : Int) + 1)) (a' : Int) (b' : Int) = _
     rw [k4.w]
     rfl
    ·rw [if_neg hb0] at k3 ⊢
     have k3 : Cut l (i + 1 + 1 + 1) (125 :: rest) := k3
     have y125 := is_yes m k3
     simp only [Int.cast_ofNat_Int] at y125
     rw [y125, bnd_some']
     show f67_j5 m K q.fKind q.fLabels q.fSubs q.fLeast q.fMost (((a' : Int), true), st l (i + 1 + 1)) true (castL l) (w64 (((i + 1 + 1 : Nat) : Int) + 1)) (-1) = _
     rw [k2.w]
     unfold f67_j5
     rw [y125, bnd_some']
     show f67_j4 m K _ _ _ _ _ true (castL l) (w64 (((i + 1 + 1 + 1 : Nat) : Int) + 1)) (a' : Int) (-1) = _
     have hb1 : b = -1 := by omega
     rw [k3.w, hb1]
     rfl
theorem ix_stop : ∀ p : Nat, p < 128 → decide (Lib.indexByte (⟨#[41, 93, 124, 38, 45, 42, 43, 63, 123, 125, 44]⟩ : ByteArray).data.toList (IntKind.u8.wrap (p : Int)).toNat.toUInt8 ≥ 0) = stopL.contains p := by decide +kernel
theorem stop_big (p : Nat) (h : ¬ p < 128) : stopL.contains p = false := by
 simp only [stopL, List.contains_eq_any_beq, List.any_cons, List.any_nil, Bool.or_false, Bool.or_eq_false_iff, beq_eq_false_iff_ne, ne_eq]
 omega
def goB : List Nat → Bool
 | [] => false
 | x :: _ => !stopL.contains x
theorem seq_go (m : Nat) (K : Rec28) (d : Int) (acc : List P24) {l : List Nat} {i : Nat} {t : List Nat} (h : Cut l i t) : f61_B2 m K d acc (castL l) (i : Int) = f61_r1 m K d acc (castL l) (i : Int) (goB t) := by
 unfold f61_B2
 rw [castL_len]
 cases t with
 | nil =>
  rw [decide_eq_false (by have := h.nil; omega), cnd_false, bnd_some']
  rfl
 | cons x r =>
  rw [decide_eq_true (by have := h.lt; omega), cnd_true, h.idx, bnd_some', bnd_some']
  show _ = f61_r1 m K d acc (castL l) (i : Int) (!stopL.contains x)
  by_cases hb : x < 128
  ·rw [decide_eq_true (by omega : (x : Int) < 128), cnd_true]
   unfold f56
   rw [bnd_some', ix_stop x hb, bnd_some']
  ·rw [decide_eq_false (by omega : ¬ (x : Int) < 128), cnd_false, bnd_some', stop_big x hb]
def spI : List Int := [40, 41, 91, 93, 124, 38, 45, 42, 43, 63, 123, 125, 44, 92]
theorem f49_loop (m : Nat) (x : Int) : ∀ (M i : Nat), i ≤ 14 → 14 < M + i → iter (fun (y : Int) => f49_B1 m x y) M (i : Int) = some (if (spI.drop i).contains x then .inl true else .inr 14)
 | 0, i, _, _ => by omega
 | M + 1, i, h1, h2 => by
  have hwi : w64 ((i : Int) + 1) = ((i + 1 : Nat) : Int) := by rw [w64_id ⟨by omega, by omega⟩]; omega
  have hl : spI.length = 14 := rfl
  unfold iter f49_B1
  rcases Nat.lt_or_ge i 14 with hlt | hge
  ·have hlt' : i < spI.length := by rw [hl]; exact hlt
   have hx := List.getElem?_eq_getElem hlt'
   have hdr := List.drop_eq_getElem_cons hlt'
   generalize spI[i] = y at hx hdr
   have e1 : idx spI (i : Int) = some y := by
    unfold idx
    rw [if_pos (by omega), Int.toNat_natCast]
    exact hx
   have hd : decide ((i : Int) < (([40, 41, 91, 93, 124, 38, 45, 42, 43, 63, 123, 125, 44, 92] : List Nat).length : Int)) = true := decide_eq_true (show (i : Int) < ((14 : Nat) : Int) by omega)
   have e1 : idx ([40, 41, 91, 93, 124, 38, 45, 42, 43, 63, 123, 125, 44, 92] : List Int) (i : Int) = some y := e1
   rw [hd, cnd_true, e1, bnd_some', hdr, List.contains_cons]
   by_cases h : y = x
   ·rw [show (y == x) = true by simpa using h, show (x == y) = true by simpa using h.symm, cnd_true]
    rfl
   ·rw [show (y == x) = false by simpa using h, show (x == y) = false by simpa using Ne.symm h, cnd_false, Bool.false_or]
    have ih := f49_loop m x M (i + 1) (by omega) (by omega)
    dsimp only
    rw [hwi]
    unfold f49_B1 at ih
    exact ih
  ·have : i = 14 := by omega
   subst this
   have hd : decide (((14 : Nat) : Int) < (([40, 41, 91, 93, 124, 38, 45, 42, 43, 63, 123, 125, 44, 92] : List Nat).length : Int)) = false := rfl
   rw [hd, cnd_false]
   rfl
theorem f49_eq (m : Nat) (hm : 100 ≤ m) (p : Nat) : f49 m (p : Int) = some (specL.contains p) := by
 have h := f49_loop m (p : Int) m 0 (by omega) (by omega)
 have h : iter (fun (y : Int) => f49_B1 m (p : Int) y) m 0 = _ := h
 unfold f49
 rw [h, List.drop_zero]
 have e : spI.contains (p : Int) = specL.contains p := by
  simp only [spI, specL, List.contains_eq_any_beq, List.any_cons, List.any_nil]
  have k : ∀ z : Nat, ((p : Int) == (z : Int)) = (p == z) := fun z => by rw [Bool.eq_iff_iff]; simp only [beq_iff_eq]; omega
  have k := fun z => k z
  rw [show ((p : Int) == 40) = (p == 40) from k 40, show ((p : Int) == 41) = (p == 41) from k 41, show ((p : Int) == 91) = (p == 91) from k 91, show ((p : Int) == 93) = (p == 93) from k 93,
   show ((p : Int) == 124) = (p == 124) from k 124, show ((p : Int) == 38) = (p == 38) from k 38, show ((p : Int) == 45) = (p == 45) from k 45, show ((p : Int) == 42) = (p == 42) from k 42,
   show ((p : Int) == 43) = (p == 43) from k 43, show ((p : Int) == 63) = (p == 63) from k 63, show ((p : Int) == 123) = (p == 123) from k 123, show ((p : Int) == 125) = (p == 125) from k 125,
   show ((p : Int) == 44) = (p == 44) from k 44, show ((p : Int) == 92) = (p == 92) from k 92]
 rw [e]
 cases specL.contains p <;> rfl
end Go.Abs
