/-
  PATTERNS, the plain laws: code points written as bytes, and read back.
-/
import Derived.Test.YthiikobbfpfbkaaDoorPA
namespace Go.Abs
open Go.Sort Go.Proofs
set_option linter.unusedVariables false
set_option maxRecDepth 100000

def encN (p : Nat) : List Nat :=
  if p < 128 then [p] else if p < 2048 then [192 + p / 64, 128 + p % 64]
  else if p < 65536 then [224 + p / 4096, 128 + p / 64 % 64, 128 + p % 64]
  else [240 + p / 262144, 128 + p / 4096 % 64, 128 + p / 64 % 64, 128 + p % 64]
def ScalarN (p : Nat) : Prop := p ≤ 1114111 ∧ (p < 55296 ∨ 57344 ≤ p)
theorem encN_one {p : Nat} (h : ScalarN p) (r : List Nat) : oneN (encN p ++ r) = some (p, (encN p).length) := by
  obtain ⟨h1, h2⟩ := h
  unfold encN
  split
  · exact (One.w1 p r (by omega)).toN
  · split
    · have := (One.w2 (192 + p / 64) (128 + p % 64) r ⟨by omega, by omega⟩ ⟨by omega, by omega⟩).toN
      have e : (192 + p / 64 - 192) * 64 + (128 + p % 64 - 128) = p := by omega
      rw [e] at this
      exact this
    · split
      · have e : (224 + p / 4096 - 224) * 4096 + (128 + p / 64 % 64 - 128) * 64 + (128 + p % 64 - 128) = p := by omega
        have := (One.w3 (224 + p / 4096) (128 + p / 64 % 64) (128 + p % 64) r ⟨by omega, by omega⟩ ⟨by omega, by omega⟩ ⟨by omega, by omega⟩ (by rw [e]; omega)).toN
        rw [e] at this
        exact this
      · have e : (240 + p / 262144 - 240) * 262144 + (128 + p / 4096 % 64 - 128) * 4096 + (128 + p / 64 % 64 - 128) * 64 + (128 + p % 64 - 128) = p := by omega
        have := (One.w4 (240 + p / 262144) (128 + p / 4096 % 64) (128 + p / 64 % 64) (128 + p % 64) r ⟨by omega, by omega⟩ ⟨by omega, by omega⟩ ⟨by omega, by omega⟩ ⟨by omega, by omega⟩ (by rw [e]; omega)).toN
        rw [e] at this
        exact this
theorem encN_len (p : Nat) : 1 ≤ (encN p).length ∧ (encN p).length ≤ 4 := by
  unfold encN
  repeat' split
  all_goals simp
theorem encN_lt {p : Nat} (h : ScalarN p) : ∀ x ∈ encN p, x < 256 := by
  obtain ⟨h1, h2⟩ := h
  unfold encN
  intro x hx
  repeat' split at hx
  all_goals simp only [List.mem_cons, List.not_mem_nil, or_false] at hx
  all_goals omega
def encs (L : List Nat) : List Nat := L.flatMap encN
theorem encs_app (a b : List Nat) : encs (a ++ b) = encs a ++ encs b := List.flatMap_append
theorem encs_len (L : List Nat) : L.length ≤ (encs L).length ∧ (encs L).length ≤ 4 * L.length := by
  induction L with
  | nil => exact ⟨Nat.le_refl _, Nat.le_refl _⟩
  | cons p r ih =>
    have := encN_len p
    simp only [encs, List.flatMap_cons, List.length_append, List.length_cons] at ih ⊢
    omega
theorem ptsB_encs : ∀ {L : List Nat}, (∀ p ∈ L, ScalarN p) → ptsB (encs L) = some L
  | [], _ => ptsB_nil
  | p :: r, h => by
    have h1 := encN_one (h p List.mem_cons_self) (encs r)
    have e : encs (p :: r) = encN p ++ encs r := List.flatMap_cons
    rw [e, ptsB_one h1, List.drop_left, ptsB_encs fun q hq => h q (List.mem_cons_of_mem _ hq)]
    rfl
theorem encs_lt {L : List Nat} (h : ∀ p ∈ L, ScalarN p) : ∀ x ∈ encs L, x < 256 := by
  intro x hx
  obtain ⟨p, hp, hx⟩ := List.mem_flatMap.1 hx
  exact encN_lt (h p hp) x hx
/-- a text of such bytes -/
theorem bytN_strI {L : List Nat} (h : ∀ x ∈ L, x < 256) : bytN (strI (castL L)) = L := by
  unfold bytN strI castL
  simp only [List.map_map]
  have : ∀ x ∈ L, ((fun b : UInt8 => b.toNat) ∘ (fun n : Int => UInt8.ofNat n.toNat) ∘ fun n : Nat => (n : Int)) x = x := by
    intro x hx
    have := h x hx
    simp only [Function.comp, Int.toNat_natCast, UInt8.toNat_ofNat']
    omega
  calc L.map _ = L.map id := List.map_congr_left this
    _ = L := List.map_id L
theorem ptsS_encs {L : List Nat} (h : ∀ p ∈ L, ScalarN p) : ptsS (strI (castL (encs L))) = some L := by
  unfold ptsS
  rw [bytN_strI (encs_lt h), ptsB_encs h]
theorem strI_size (L : List Int) : (strI L).size = L.length := by
  unfold strI
  show (L.map _).toArray.size = _
  simp
theorem castL_app (a b : List Nat) : castL (a ++ b) = castL a ++ castL b := List.map_append

/-! ### the bytes that AppendRune writes -/
theorem wrap8 (n : Nat) : IntKind.u8.wrap (n : Int) = ((n % 256 : Nat) : Int) := by
  unfold IntKind.wrap
  simp [IntKind.bits, IntKind.signed]
theorem wrap32u (n : Nat) (h : n ≤ 1114111) : IntKind.u32.wrap (n : Int) = (n : Int) := by
  unfold IntKind.wrap
  simp [IntKind.bits, IntKind.signed]
  omega
theorem wrap32i (n : Nat) (h : n ≤ 1114111) : IntKind.i32.wrap (n : Int) = (n : Int) := by
  have h0 : (IntKind.i32.bits : Nat) = 32 := rfl
  have e : (n : Int) % (2 ^ IntKind.i32.bits : Int) = (n : Int) := by
    rw [h0]
    omega
  have e2 : ¬ ((n : Int) ≥ (2 ^ (IntKind.i32.bits - 1) : Int)) := by
    rw [h0]
    omega
  unfold IntKind.wrap
  simp only [e]
  rw [decide_eq_false e2, Bool.and_false]
  rfl
theorem fdiv_nat (n k : Nat) : Int.fdiv (n : Int) (k : Int) = ((n / k : Nat) : Int) := by
  rw [Int.fdiv_eq_ediv_of_nonneg _ (by omega)]
  exact (Int.natCast_ediv n k).symm
theorem or192 : ∀ x : Nat, x < 32 → bits .or .u8 192 (x : Int) = ((192 + x : Nat) : Int) := by decide +kernel
theorem or224 : ∀ x : Nat, x < 16 → bits .or .u8 224 (x : Int) = ((224 + x : Nat) : Int) := by decide +kernel
theorem or240 : ∀ x : Nat, x < 8 → bits .or .u8 240 (x : Int) = ((240 + x : Nat) : Int) := by decide +kernel
theorem cont8 : ∀ x : Nat, x < 256 → bits .or .u8 128 (bits .and .u8 (x : Int) 63) = ((128 + x % 64 : Nat) : Int) := by decide +kernel
theorem sh6 (p : Nat) : Int.fdiv (p : Int) (2 ^ (min (6 : Int).toNat IntKind.i32.bits)) = ((p / 64 : Nat) : Int) := fdiv_nat p 64
theorem sh12 (p : Nat) : Int.fdiv (p : Int) (2 ^ (min (12 : Int).toNat IntKind.i32.bits)) = ((p / 4096 : Nat) : Int) := fdiv_nat p 4096
theorem sh18 (p : Nat) : Int.fdiv (p : Int) (2 ^ (min (18 : Int).toNat IntKind.i32.bits)) = ((p / 262144 : Nat) : Int) := fdiv_nat p 262144
theorem c8 (x : Nat) : bits .or .u8 128 (bits .and .u8 (((x % 256 : Nat) : Int)) 63) = ((128 + x % 64 : Nat) : Int) := by
  rw [cont8 (x % 256) (by omega)]
  congr 2
  omega
theorem app_bnd {α : Type} (b : Nat) (xs ys : List α) : (bnd (app b xs ys) fun v => some v) = app b xs ys := by
  cases app b xs ys <;> rfl
theorem f57_eq (m : Nat) (b : List Int) (p : Nat) (hp : ScalarN p) : f57 m b (p : Int) = app 1 b (castL (encN p)) := by
  obtain ⟨h1, h2⟩ := hp
  unfold f57
  rw [wrap32u p h1]
  unfold encN
  by_cases q1 : p < 128
  · rw [decide_eq_true (by omega : (p : Int) ≤ 127), cnd_true, app_bnd, if_pos q1, wrap8]
    have : p % 256 = p := by omega
    rw [this]
    rfl
  · rw [decide_eq_false (by omega : ¬ (p : Int) ≤ 127), cnd_false, if_neg q1]
    have e : ∀ x : Option (List Int), (bnd x fun v => some v) = x := fun x => by cases x <;> rfl
    rw [e]
    unfold f65
    rw [wrap32u p h1]
    by_cases q2 : p < 2048
    · rw [decide_eq_true (by omega : (p : Int) ≤ 2047), cnd_true, app_bnd, if_pos q2, sh6, wrap8, wrap8, c8]
      have : p / 64 % 256 = p / 64 := by omega
      rw [this, or192 _ (by omega)]
      rfl
    · rw [decide_eq_false (by omega : ¬ (p : Int) ≤ 2047), cnd_false, if_neg q2]
      by_cases q3 : p < 65536
      · rw [if_pos q3]
        have key : f65_j2 m b (p : Int) true = app 1 b (castL [224 + p / 4096, 128 + p / 64 % 64, 128 + p % 64]) := by
          unfold f65_j2
          rw [cnd_true, app_bnd, sh12, sh6, wrap8, wrap8, wrap8, c8, c8]
          have : p / 4096 % 256 = p / 4096 := by omega
          rw [this, or224 _ (by omega)]
          rfl
        by_cases q4 : p < 55296
        · rw [decide_eq_true (by omega : (p : Int) < 55296), cnd_true]
          exact key
        · rw [decide_eq_false (by omega : ¬ (p : Int) < 55296), cnd_false]
          unfold f65_r3
          rw [decide_eq_true (by omega : (57343 : Int) < p), decide_eq_true (by omega : (p : Int) ≤ 65535)]
          exact key
      · rw [if_neg q3, decide_eq_false (by omega : ¬ (p : Int) < 55296), cnd_false]
        unfold f65_r3 f65_j2
        rw [decide_eq_true (by omega : (57343 : Int) < p), decide_eq_false (by omega : ¬ (p : Int) ≤ 65535)]
        show cnd false _ _ = _
        rw [cnd_false]
        unfold f65_r1
        rw [wrap32u p h1, decide_eq_true (by omega : (p : Int) > 65535), decide_eq_true (by omega : (p : Int) ≤ 1114111)]
        show cnd true _ _ = _
        rw [cnd_true, app_bnd, sh18, sh12, sh6, wrap8, wrap8, wrap8, wrap8, c8, c8, c8]
        have : p / 262144 % 256 = p / 262144 := by omega
        rw [this, or240 _ (by omega)]
        rfl

/-! ### signs -/
def specL : List Nat := [40, 41, 91, 93, 124, 38, 45, 42, 43, 63, 123, 125, 44, 92]
def signs (p : Nat) : List Nat := if specL.contains p then [92, p] else [p]
theorem ix_spec : ∀ p : Nat, p < 128 → decide (Lib.indexByte (⟨#[40, 41, 91, 93, 124, 38, 45, 42, 43, 63, 123, 125, 44, 92]⟩ : ByteArray).data.toList (IntKind.u8.wrap (p : Int)).toNat.toUInt8 ≥ 0) = specL.contains p := by decide +kernel
theorem spec_big (p : Nat) (h : ¬ p < 128) : specL.contains p = false := by
  simp only [specL, List.contains_eq_any_beq, List.any_cons, List.any_nil, Bool.or_false, Bool.or_eq_false_iff, beq_eq_false_iff_ne, ne_eq]
  omega
theorem enc92 : castL (encN 92) = [92] := rfl
theorem app_two {α : Type} (k : Nat) (xs ys zs : List α) (h : (xs.length + (ys ++ zs).length) * k ≤ 140737488355328 ∧ xs.length + (ys ++ zs).length ≤ maxLen) :
    (bnd (app k xs ys) fun v => app k v zs) = app k xs (ys ++ zs) := by
  have hl : (ys ++ zs).length = ys.length + zs.length := List.length_append
  obtain ⟨h1, h2⟩ := h
  rw [hl] at h1 h2
  have e1 : (xs.length + ys.length) * k ≤ 140737488355328 := Nat.le_trans (Nat.mul_le_mul_right _ (by omega)) h1
  unfold app
  rw [if_pos ⟨e1, by omega⟩, bnd_some']
  rw [if_pos ⟨by rw [List.length_append, Nat.add_assoc]; exact h1, by rw [List.length_append]; omega⟩, if_pos ⟨by rw [hl]; exact h1, by rw [hl]; omega⟩, List.append_assoc]
theorem f39_eq (m : Nat) (b : List Int) (p : Nat) (hp : ScalarN p) (hb : b.length ≤ 100000000) : f39 m b (p : Int) = some (b ++ castL (encs (signs p))) := by
  have hl := encN_len p
  have hc : (castL (encN p)).length = (encN p).length := castL_len _
  unfold f39
  have key : ∀ s : Bool, specL.contains p = s → f39_r2 m b (p : Int) s = some (b ++ castL (encs (signs p))) := by
    intro s hs
    unfold f39_r2 f39_j1 signs
    rw [wrap32i p hp.1, hs]
    cases s with
    | true =>
      rw [cnd_true, app_some 1 _ _ (by simp; omega) (by simp; omega), bnd_some', f57_eq m _ p hp, app_bnd, app_some 1 _ _ (by simp [hc]; omega) (by simp [hc]; omega)]
      simp [encs, castL_app, enc92]
    | false =>
      rw [cnd_false, f57_eq m _ p hp, app_bnd, app_some 1 _ _ (by simp [hc]; omega) (by simp [hc]; omega)]
      simp [encs]
  by_cases h : p < 128
  · rw [decide_eq_true (by omega : (p : Int) < 128), cnd_true]
    unfold f56
    rw [bnd_some', bnd_some', ix_spec p h]
    exact key _ rfl
  · rw [decide_eq_false (by omega : ¬ (p : Int) < 128), cnd_false, bnd_some']
    exact key _ (spec_big p h)
end Go.Abs
