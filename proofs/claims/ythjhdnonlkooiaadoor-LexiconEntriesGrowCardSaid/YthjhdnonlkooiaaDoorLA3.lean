import Derived.Test.YthjhdnonlkooiaaDoorLA2
namespace Go.Abs
set_option linter.unusedVariables false
/-! ### code points of bytes -/
inductive One : List Nat → Nat → Nat → Prop
  | w1 (b0 : Nat) (r : List Nat) (h : b0 < 128) : One (b0 :: r) b0 1
  | w2 (b0 b1 : Nat) (r : List Nat) (h : 194 ≤ b0 ∧ b0 < 224) (h1 : 128 ≤ b1 ∧ b1 ≤ 191) : One (b0 :: b1 :: r) ((b0 - 192) * 64 + (b1 - 128)) 2
  | w3 (b0 b1 b2 : Nat) (r : List Nat) (h : 224 ≤ b0 ∧ b0 < 240) (h1 : 128 ≤ b1 ∧ b1 ≤ 191) (h2 : 128 ≤ b2 ∧ b2 ≤ 191)
      (h3 : 2048 ≤ (b0 - 224) * 4096 + (b1 - 128) * 64 + (b2 - 128) ∧ ((b0 - 224) * 4096 + (b1 - 128) * 64 + (b2 - 128) < 55296 ∨ 57344 ≤ (b0 - 224) * 4096 + (b1 - 128) * 64 + (b2 - 128))) :
      One (b0 :: b1 :: b2 :: r) ((b0 - 224) * 4096 + (b1 - 128) * 64 + (b2 - 128)) 3
  | w4 (b0 b1 b2 b3 : Nat) (r : List Nat) (h : 240 ≤ b0 ∧ b0 < 245) (h1 : 128 ≤ b1 ∧ b1 ≤ 191) (h2 : 128 ≤ b2 ∧ b2 ≤ 191) (h3 : 128 ≤ b3 ∧ b3 ≤ 191)
      (h4 : 65536 ≤ (b0 - 240) * 262144 + (b1 - 128) * 4096 + (b2 - 128) * 64 + (b3 - 128) ∧ (b0 - 240) * 262144 + (b1 - 128) * 4096 + (b2 - 128) * 64 + (b3 - 128) ≤ 1114111) :
      One (b0 :: b1 :: b2 :: b3 :: r) ((b0 - 240) * 262144 + (b1 - 128) * 4096 + (b2 - 128) * 64 + (b3 - 128)) 4
theorem oneN_One {l : List Nat} {p w : Nat} (h : oneN l = some (p, w)) : One l p w := by
  unfold oneN at h
  split at h
  · cases h
  · rename_i b0 r
    split at h
    · cases h; exact .w1 _ _ (by assumption)
    · split at h
      · cases h
      · split at h
        · split at h
          · split at h
            · rename_i hc; simp only [Option.some.injEq, Prod.mk.injEq] at h; obtain ⟨rfl, rfl⟩ := h; exact .w2 _ _ _ ⟨by omega, by omega⟩ hc
            · cases h
          · cases h
        · split at h
          · split at h
            · split at h
              · rename_i hc; simp only [Option.some.injEq, Prod.mk.injEq] at h; obtain ⟨rfl, rfl⟩ := h; exact .w3 _ _ _ _ ⟨by omega, by omega⟩ hc.1 hc.2.1 hc.2.2
              · cases h
            · cases h
          · split at h
            · split at h
              · split at h
                · rename_i hc; simp only [Option.some.injEq, Prod.mk.injEq] at h; obtain ⟨rfl, rfl⟩ := h; exact .w4 _ _ _ _ _ ⟨by omega, by omega⟩ hc.1 hc.2.1 hc.2.2.1 hc.2.2.2
                · cases h
              · cases h
            · cases h
theorem One.toN {l : List Nat} {p w : Nat} (h : One l p w) : oneN l = some (p, w) := by
  cases h with
  | w1 b0 r h => simp only [oneN]; rw [if_pos h]
  | w2 b0 b1 r h h1 => simp only [oneN]; rw [if_neg (by omega), if_neg (by omega), if_pos h.2, if_pos h1]
  | w3 b0 b1 b2 r h h1 h2 h3 => simp only [oneN]; rw [if_neg (by omega), if_neg (by omega), if_neg (by omega), if_pos h.2, if_pos ⟨h1, h2, h3⟩]
  | w4 b0 b1 b2 b3 r h h1 h2 h3 h4 => simp only [oneN]; rw [if_neg (by omega), if_neg (by omega), if_neg (by omega), if_neg (by omega), if_pos h.2, if_pos ⟨h1, h2, h3, h4⟩]
theorem One.app {a b : List Nat} {p w : Nat} (h : One a p w) : One (a ++ b) p w := by
  cases h with
  | w1 b0 r h => exact .w1 _ _ h
  | w2 b0 b1 r h h1 => exact .w2 _ _ _ h h1
  | w3 b0 b1 b2 r h h1 h2 h3 => exact .w3 _ _ _ _ h h1 h2 h3
  | w4 b0 b1 b2 b3 r h h1 h2 h3 h4 => exact .w4 _ _ _ _ _ h h1 h2 h3 h4
theorem One.cut {a b : List Nat} {p w : Nat} (h : One (a ++ b) p w) (hw : w ≤ a.length) : One a p w := by
  generalize hl : a ++ b = l at h
  cases h with
  | w1 b0 r h =>
    match a, hl, hw with
    | x :: a, hl, _ => simp only [List.cons_append, List.cons.injEq] at hl; rw [hl.1]; exact .w1 _ _ h
  | w2 b0 b1 r h h1 =>
    match a, hl, hw with
    | [x], hl, hw => simp at hw
    | x :: y :: a, hl, _ => simp only [List.cons_append, List.cons.injEq] at hl; rw [hl.1, hl.2.1]; exact .w2 _ _ _ h h1
  | w3 b0 b1 b2 r h h1 h2 h3 =>
    match a, hl, hw with
    | [x], hl, hw => simp at hw
    | [x, y], hl, hw => simp at hw
    | x :: y :: z :: a, hl, _ => simp only [List.cons_append, List.cons.injEq] at hl; rw [hl.1, hl.2.1, hl.2.2.1]; exact .w3 _ _ _ _ h h1 h2 h3
  | w4 b0 b1 b2 b3 r h h1 h2 h3 h4 =>
    match a, hl, hw with
    | [x], hl, hw => simp at hw
    | [x, y], hl, hw => simp at hw
    | [x, y, z], hl, hw => simp at hw
    | x :: y :: z :: u :: a, hl, _ => simp only [List.cons_append, List.cons.injEq] at hl; rw [hl.1, hl.2.1, hl.2.2.1, hl.2.2.2.1]; exact .w4 _ _ _ _ _ h h1 h2 h3 h4
theorem One.cont {l : List Nat} {p w : Nat} (h : One l p w) : ∀ i b, 1 ≤ i → i < w → l[i]? = some b → 128 ≤ b ∧ b ≤ 191 := by
  intro i b hi hw hb
  cases h with
  | w1 b0 r h => omega
  | w2 b0 b1 r h h1 =>
    have : i = 1 := by omega
    subst this
    simp only [List.getElem?_cons_succ, List.getElem?_cons_zero, Option.some.injEq] at hb
    omega
  | w3 b0 b1 b2 r h h1 h2 h3 =>
    have : i = 1 ∨ i = 2 := by omega
    rcases this with rfl | rfl <;> simp only [List.getElem?_cons_succ, List.getElem?_cons_zero, Option.some.injEq] at hb <;> omega
  | w4 b0 b1 b2 b3 r h h1 h2 h3 h4 =>
    have : i = 1 ∨ i = 2 ∨ i = 3 := by omega
    rcases this with rfl | rfl | rfl <;> simp only [List.getElem?_cons_succ, List.getElem?_cons_zero, Option.some.injEq] at hb <;> omega
theorem One.head {b : Nat} {r : List Nat} {p w : Nat} (h : One (b :: r) p w) : ¬ (128 ≤ b ∧ b ≤ 191) := by
  cases h <;> omega
theorem byt_get (s : ByteArray) (i k : Nat) : sidx s ((i + k : Nat) : Int) = (((bytN s).drop i)[k]?).map fun n : Nat => (n : Int) := by
  rw [sidx_get, byt_bytN, List.getElem?_map, List.getElem?_drop]
theorem oneN_w {l : List Nat} {p w : Nat} (h : oneN l = some (p, w)) : 1 ≤ w ∧ w ≤ 4 ∧ w ≤ l.length ∧ p ≤ 1114111 ∧ (w = 1 → p < 128) ∧ (w = 2 → 128 ≤ p ∧ p < 2048) ∧ (w = 3 → 2048 ≤ p ∧ p < 65536) ∧ (w = 4 → 65536 ≤ p) := by
  cases oneN_One h with
  | w1 b0 r h => simp only [List.length_cons]; omega
  | w2 b0 b1 r h h1 => simp only [List.length_cons]; omega
  | w3 b0 b1 b2 r h h1 h2 h3 => simp only [List.length_cons]; omega
  | w4 b0 b1 b2 b3 r h h1 h2 h3 h4 => simp only [List.length_cons]; omega
def conts : Nat → List Nat → Nat → Option Nat
  | v, _, 0 => some v
  | v, b :: l, d + 1 => if 128 ≤ b ∧ b ≤ 191 then conts (v * 64 + (b - 128)) l d else none
  | v, [], d + 1 => none
def BB : Nat → Nat
  | 3 => 100
  | 2 => 6500
  | 1 => 420000
  | _ => 27000000
theorem BB_step (d : Nat) (hd : d + 1 ≤ 3) : BB (d + 1) * 64 + 63 ≤ BB d := by
  have : d = 0 ∨ d = 1 ∨ d = 2 := by omega
  rcases this with rfl | rfl | rfl <;> decide
theorem BB_le (d : Nat) : BB d ≤ 27000000 := by
  match d with
  | 0 => decide
  | 1 => decide
  | 2 => decide
  | 3 => decide
  | d + 4 => exact Nat.le_refl _
/-- what the loop's value comes to -/
def fin (n : Nat) : Option Nat → Int
  | some r => if (r < 55296 ∨ (57344 ≤ r ∧ r ≤ 1114111)) ∧ (if r < 128 then 1 else if r < 2048 then 2 else if r < 65536 then 3 else 4) = n then (r : Int) else -1
  | none => -1
set_option maxRecDepth 100000 in
/-- the first code point, or -1 -/
def oneS (l : List Nat) : Int := match oneN l with
  | some (p, _) => (p : Int)
  | none => -1
theorem lead4 (b0 : Nat) (h : 240 ≤ b0 ∧ b0 < 256) : ∀ rest : List Nat, (if 3 ≤ rest.length then fin 4 (conts (b0 - 240) rest 3) else -1) = oneS (b0 :: rest)
  | [] => by
    have : oneN [b0] = none := by simp only [oneN]; rw [if_neg (by omega), if_neg (by omega), if_neg (by omega), if_neg (by omega)]; split <;> rfl
    unfold oneS; rw [this]; rfl
  | [x] => by
    have : oneN [b0, x] = none := by simp only [oneN]; rw [if_neg (by omega), if_neg (by omega), if_neg (by omega), if_neg (by omega)]; split <;> rfl
    unfold oneS; rw [this]; rfl
  | [x, y] => by
    have : oneN [b0, x, y] = none := by simp only [oneN]; rw [if_neg (by omega), if_neg (by omega), if_neg (by omega), if_neg (by omega)]; split <;> rfl
    unfold oneS; rw [this]; rfl
  | x :: y :: z :: r => by
    rw [if_pos (by simp only [List.length_cons]; omega)]
    have e : oneN (b0 :: x :: y :: z :: r) = if b0 < 245 then (if (128 ≤ x ∧ x ≤ 191) ∧ (128 ≤ y ∧ y ≤ 191) ∧ (128 ≤ z ∧ z ≤ 191) ∧ 65536 ≤ (b0 - 240) * 262144 + (x - 128) * 4096 + (y - 128) * 64 + (z - 128) ∧ (b0 - 240) * 262144 + (x - 128) * 4096 + (y - 128) * 64 + (z - 128) ≤ 1114111 then some ((b0 - 240) * 262144 + (x - 128) * 4096 + (y - 128) * 64 + (z - 128), 4) else none) else none := by
      simp only [oneN]; rw [if_neg (by omega), if_neg (by omega), if_neg (by omega), if_neg (by omega)]
    have e2 : conts (b0 - 240) (x :: y :: z :: r) 3 = if (128 ≤ x ∧ x ≤ 191) ∧ (128 ≤ y ∧ y ≤ 191) ∧ (128 ≤ z ∧ z ≤ 191) then some ((((b0 - 240) * 64 + (x - 128)) * 64 + (y - 128)) * 64 + (z - 128)) else none := by
      simp only [conts]
      by_cases h1 : 128 ≤ x ∧ x ≤ 191
      · by_cases h2 : 128 ≤ y ∧ y ≤ 191
        · by_cases h3 : 128 ≤ z ∧ z ≤ 191
          · rw [if_pos h1, if_pos h2, if_pos h3, if_pos ⟨h1, h2, h3⟩]
          · rw [if_pos h1, if_pos h2, if_neg h3, if_neg (fun h => h3 h.2.2)]
        · rw [if_pos h1, if_neg h2, if_neg (fun h => h2 h.2.1)]
      · rw [if_neg h1, if_neg (fun h => h1 h.1)]
    unfold oneS
    rw [e, e2]
    by_cases hc : (128 ≤ x ∧ x ≤ 191) ∧ (128 ≤ y ∧ y ≤ 191) ∧ (128 ≤ z ∧ z ≤ 191)
    · rw [if_pos hc]
      have e3 : (((b0 - 240) * 64 + (x - 128)) * 64 + (y - 128)) * 64 + (z - 128) = (b0 - 240) * 262144 + (x - 128) * 4096 + (y - 128) * 64 + (z - 128) := by omega
      rw [e3]
      by_cases hr : 65536 ≤ (b0 - 240) * 262144 + (x - 128) * 4096 + (y - 128) * 64 + (z - 128) ∧ (b0 - 240) * 262144 + (x - 128) * 4096 + (y - 128) * 64 + (z - 128) ≤ 1114111
      · rw [if_pos (by omega), if_pos ⟨hc.1, hc.2.1, hc.2.2, hr⟩]
        simp only [fin]
        rw [if_neg (by omega : ¬ (b0 - 240) * 262144 + (x - 128) * 4096 + (y - 128) * 64 + (z - 128) < 128), if_neg (by omega : ¬ (b0 - 240) * 262144 + (x - 128) * 4096 + (y - 128) * 64 + (z - 128) < 2048), if_neg (by omega : ¬ (b0 - 240) * 262144 + (x - 128) * 4096 + (y - 128) * 64 + (z - 128) < 65536), if_pos ⟨by omega, rfl⟩]
      · have hn : (if b0 < 245 then (if (128 ≤ x ∧ x ≤ 191) ∧ (128 ≤ y ∧ y ≤ 191) ∧ (128 ≤ z ∧ z ≤ 191) ∧ 65536 ≤ (b0 - 240) * 262144 + (x - 128) * 4096 + (y - 128) * 64 + (z - 128) ∧ (b0 - 240) * 262144 + (x - 128) * 4096 + (y - 128) * 64 + (z - 128) ≤ 1114111 then some ((b0 - 240) * 262144 + (x - 128) * 4096 + (y - 128) * 64 + (z - 128), 4) else none) else none : Option (Nat × Nat)) = none := by
          split
          · rw [if_neg (fun h => hr h.2.2.2)]
          · rfl
        rw [hn]
        simp only [fin]
        refine if_neg fun hh => hr ?_
        obtain ⟨h1, h2⟩ := hh
        split at h2
        · omega
        · split at h2
          · omega
          · split at h2
            · omega
            · omega
    · rw [if_neg hc]
      have hn : (if b0 < 245 then (if (128 ≤ x ∧ x ≤ 191) ∧ (128 ≤ y ∧ y ≤ 191) ∧ (128 ≤ z ∧ z ≤ 191) ∧ 65536 ≤ (b0 - 240) * 262144 + (x - 128) * 4096 + (y - 128) * 64 + (z - 128) ∧ (b0 - 240) * 262144 + (x - 128) * 4096 + (y - 128) * 64 + (z - 128) ≤ 1114111 then some ((b0 - 240) * 262144 + (x - 128) * 4096 + (y - 128) * 64 + (z - 128), 4) else none) else none : Option (Nat × Nat)) = none := by
        split
        · rw [if_neg (fun h => hc ⟨h.1, h.2.1, h.2.2.1⟩)]
        · rfl
      rw [hn]; rfl
theorem lead3 (b0 : Nat) (h : 224 ≤ b0 ∧ b0 < 240) : ∀ rest : List Nat, (if 2 ≤ rest.length then fin 3 (conts (b0 - 224) rest 2) else -1) = oneS (b0 :: rest)
  | [] => by
    have : oneN [b0] = none := by simp only [oneN]; rw [if_neg (by omega), if_neg (by omega), if_neg (by omega), if_pos h.2]
    unfold oneS; rw [this]; rfl
  | [x] => by
    have : oneN [b0, x] = none := by simp only [oneN]; rw [if_neg (by omega), if_neg (by omega), if_neg (by omega), if_pos h.2]
    unfold oneS; rw [this]; rfl
  | x :: y :: r => by
    rw [if_pos (by simp only [List.length_cons]; omega)]
    have e : oneN (b0 :: x :: y :: r) = if (128 ≤ x ∧ x ≤ 191) ∧ (128 ≤ y ∧ y ≤ 191) ∧ 2048 ≤ (b0 - 224) * 4096 + (x - 128) * 64 + (y - 128) ∧ ((b0 - 224) * 4096 + (x - 128) * 64 + (y - 128) < 55296 ∨ 57344 ≤ (b0 - 224) * 4096 + (x - 128) * 64 + (y - 128)) then some ((b0 - 224) * 4096 + (x - 128) * 64 + (y - 128), 3) else none := by
      simp only [oneN]; rw [if_neg (by omega), if_neg (by omega), if_neg (by omega), if_pos h.2]
    have e2 : conts (b0 - 224) (x :: y :: r) 2 = if (128 ≤ x ∧ x ≤ 191) ∧ (128 ≤ y ∧ y ≤ 191) then some (((b0 - 224) * 64 + (x - 128)) * 64 + (y - 128)) else none := by
      simp only [conts]
      by_cases h1 : 128 ≤ x ∧ x ≤ 191
      · by_cases h2 : 128 ≤ y ∧ y ≤ 191
        · rw [if_pos h1, if_pos h2, if_pos ⟨h1, h2⟩]
        · rw [if_pos h1, if_neg h2, if_neg (fun h => h2 h.2)]
      · rw [if_neg h1, if_neg (fun h => h1 h.1)]
    unfold oneS
    rw [e, e2]
    by_cases hc : (128 ≤ x ∧ x ≤ 191) ∧ (128 ≤ y ∧ y ≤ 191)
    · rw [if_pos hc]
      have e3 : ((b0 - 224) * 64 + (x - 128)) * 64 + (y - 128) = (b0 - 224) * 4096 + (x - 128) * 64 + (y - 128) := by omega
      rw [e3]
      by_cases hr : 2048 ≤ (b0 - 224) * 4096 + (x - 128) * 64 + (y - 128) ∧ ((b0 - 224) * 4096 + (x - 128) * 64 + (y - 128) < 55296 ∨ 57344 ≤ (b0 - 224) * 4096 + (x - 128) * 64 + (y - 128))
      · rw [if_pos ⟨hc.1, hc.2, hr⟩]
        simp only [fin]
        rw [if_neg (by omega : ¬ (b0 - 224) * 4096 + (x - 128) * 64 + (y - 128) < 128), if_neg (by omega : ¬ (b0 - 224) * 4096 + (x - 128) * 64 + (y - 128) < 2048), if_pos (by omega : (b0 - 224) * 4096 + (x - 128) * 64 + (y - 128) < 65536), if_pos ⟨by omega, rfl⟩]
      · rw [if_neg (fun h => hr h.2.2)]
        simp only [fin]
        refine if_neg fun hh => hr ?_
        obtain ⟨h1, h2⟩ := hh
        split at h2
        · omega
        · split at h2
          · omega
          · split at h2
            · omega
            · omega
    · rw [if_neg hc, if_neg (fun h => hc ⟨h.1, h.2.1⟩)]; rfl
theorem lead2 (b0 : Nat) (h : 192 ≤ b0 ∧ b0 < 224) : ∀ rest : List Nat, (if 1 ≤ rest.length then fin 2 (conts (b0 - 192) rest 1) else -1) = oneS (b0 :: rest)
  | [] => by
    have : oneN [b0] = none := by
      simp only [oneN]; rw [if_neg (by omega)]
      split
      · rfl
      · rw [if_pos h.2]
    unfold oneS; rw [this]; rfl
  | x :: r => by
    rw [if_pos (by simp only [List.length_cons]; omega)]
    have e : oneN (b0 :: x :: r) = if b0 < 194 then none else if 128 ≤ x ∧ x ≤ 191 then some ((b0 - 192) * 64 + (x - 128), 2) else none := by
      simp only [oneN]; rw [if_neg (by omega), if_pos h.2]
    have e2 : conts (b0 - 192) (x :: r) 1 = if 128 ≤ x ∧ x ≤ 191 then some ((b0 - 192) * 64 + (x - 128)) else none := by simp only [conts]
    unfold oneS
    rw [e, e2]
    by_cases hc : 128 ≤ x ∧ x ≤ 191
    · rw [if_pos hc, if_pos hc]
      by_cases hr : b0 < 194
      · rw [if_pos hr]
        simp only [fin]
        rw [if_pos (by omega : (b0 - 192) * 64 + (x - 128) < 128), if_neg (fun h => by cases h.2)]
      · rw [if_neg hr]
        simp only [fin]
        rw [if_neg (by omega : ¬ (b0 - 192) * 64 + (x - 128) < 128), if_pos (by omega : (b0 - 192) * 64 + (x - 128) < 2048), if_pos ⟨by omega, rfl⟩]
    · rw [if_neg hc, if_neg hc]
      have : (if b0 < 194 then none else none : Option (Nat × Nat)) = none := by split <;> rfl
      rw [this]; rfl
end Go.Abs
