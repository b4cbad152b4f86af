import Derived.Test.YthjhdnonlkooiaaDoorPPlain2
namespace Go.Abs
set_option linter.unusedVariables false
/-! ### code points of bytes -/
inductive One : List Nat → Nat → Nat → Prop
  | w1 (b0 : Nat) (r : List Nat) (h : b0 < 128) : One (b0 :: r) b0 1
  | w2 (b0 b1 : Nat) (r : List Nat) (h : 194 ≤ b0 ∧ b0 < 224) (h1 : 128 ≤ b1 ∧ b1 ≤ 191) : One (b0 :: b1 :: r) ((b0 - 192) * 64 + (b1 - 128)) 2
  | w3 (b0 b1 b2 : Nat) (r : List Nat) (h : 224 ≤ b0 ∧ b0 < 240) (h1 : 128 ≤ b1 ∧ b1 ≤ 191) (h2 : 128 ≤ b2 ∧ b2 ≤ 191)
      (h3 : 2048 ≤ (b0 - 224) * 4096 + (b1 - 128) * 64 + (b2 - 128) ∧ ((b0 - 224) * 4096 + (b1 - 128) * 64 + (b2 - 128) < 55296 ∨ 57344 ≤ (b0 - 224) * 4096 + (b1 - 128) * 64 + (b2 - 128))) :
      One (b0 :: b1 :: b2 :: r) ((b0 - 224) * 4096 + (b1 - 128) * 64 + (b2 - 128)) 3
  | w4 (b0 b1 b2 b3 : Nat) (r : List Nat) (h : 240 ≤ b0 ∧ b0 < 245) (h1 : 128 ≤ b1 ∧ b1 ≤ 191) (h2 : 128 ≤ b2 ∧ b2 ≤ 191) (h3 : 128 ≤ b3 ∧ b3 ≤ 191)
      (h4 : 65536 ≤ (b0 - 240) * 262144 + (b1 - 128) * 4096 + (b2 - 128) * 64 + (b3 - 128) ∧ (b0 - 240) * 262144 + (b1 - 128) * 4096 + (b2 - 128) * 64 + (b3 - 128) ≤ 1114111) :
      One (b0 :: b1 :: b2 :: b3 :: r) ((b0 - 240) * 262144 + (b1 - 128) * 4096 + (b2 - 128) * 64 + (b3 - 128)) 4
theorem oneN_One {l : List Nat} {p w : Nat} (h : oneN l = some (p, w)) : One l p w := by
  unfold oneN at h
  split at h
  · cases h
  · rename_i b0 r
    split at h
    · cases h; exact .w1 _ _ (by assumption)
    · split at h
      · cases h
      · split at h
        · split at h
          · split at h
            · rename_i hc; simp only [Option.some.injEq, Prod.mk.injEq] at h; obtain ⟨rfl, rfl⟩ := h; exact .w2 _ _ _ ⟨by omega, by omega⟩ hc
            · cases h
          · cases h
        · split at h
          · split at h
            · split at h
              · rename_i hc; simp only [Option.some.injEq, Prod.mk.injEq] at h; obtain ⟨rfl, rfl⟩ := h; exact .w3 _ _ _ _ ⟨by omega, by omega⟩ hc.1 hc.2.1 hc.2.2
              · cases h
            · cases h
          · split at h
            · split at h
              · split at h
                · rename_i hc; simp only [Option.some.injEq, Prod.mk.injEq] at h; obtain ⟨rfl, rfl⟩ := h; exact .w4 _ _ _ _ _ ⟨by omega, by omega⟩ hc.1 hc.2.1 hc.2.2.1 hc.2.2.2
                · cases h
              · cases h
            · cases h
theorem One.toN {l : List Nat} {p w : Nat} (h : One l p w) : oneN l = some (p, w) := by
  cases h with
  | w1 b0 r h => simp only [oneN]; rw [if_pos h]
  | w2 b0 b1 r h h1 => simp only [oneN]; rw [if_neg (by omega), if_neg (by omega), if_pos h.2, if_pos h1]
  | w3 b0 b1 b2 r h h1 h2 h3 => simp only [oneN]; rw [if_neg (by omega), if_neg (by omega), if_neg (by omega), if_pos h.2, if_pos ⟨h1, h2, h3⟩]
  | w4 b0 b1 b2 b3 r h h1 h2 h3 h4 => simp only [oneN]; rw [if_neg (by omega), if_neg (by omega), if_neg (by omega), if_neg (by omega), if_pos h.2, if_pos ⟨h1, h2, h3, h4⟩]
theorem One.app {a b : List Nat} {p w : Nat} (h : One a p w) : One (a ++ b) p w := by
  cases h with
  | w1 b0 r h => exact .w1 _ _ h
  | w2 b0 b1 r h h1 => exact .w2 _ _ _ h h1
  | w3 b0 b1 b2 r h h1 h2 h3 => exact .w3 _ _ _ _ h h1 h2 h3
  | w4 b0 b1 b2 b3 r h h1 h2 h3 h4 => exact .w4 _ _ _ _ _ h h1 h2 h3 h4
theorem One.cut {a b : List Nat} {p w : Nat} (h : One (a ++ b) p w) (hw : w ≤ a.length) : One a p w := by
  generalize hl : a ++ b = l at h
  cases h with
  | w1 b0 r h =>
    match a, hl, hw with
    | x :: a, hl, _ => simp only [List.cons_append, List.cons.injEq] at hl; rw [hl.1]; exact .w1 _ _ h
  | w2 b0 b1 r h h1 =>
    match a, hl, hw with
    | [x], hl, hw => simp at hw
    | x :: y :: a, hl, _ => simp only [List.cons_append, List.cons.injEq] at hl; rw [hl.1, hl.2.1]; exact .w2 _ _ _ h h1
  | w3 b0 b1 b2 r h h1 h2 h3 =>
    match a, hl, hw with
    | [x], hl, hw => simp at hw
    | [x, y], hl, hw => simp at hw
    | x :: y :: z :: a, hl, _ => simp only [List.cons_append, List.cons.injEq] at hl; rw [hl.1, hl.2.1, hl.2.2.1]; exact .w3 _ _ _ _ h h1 h2 h3
  | w4 b0 b1 b2 b3 r h h1 h2 h3 h4 =>
    match a, hl, hw with
    | [x], hl, hw => simp at hw
    | [x, y], hl, hw => simp at hw
    | [x, y, z], hl, hw => simp at hw
    | x :: y :: z :: u :: a, hl, _ => simp only [List.cons_append, List.cons.injEq] at hl; rw [hl.1, hl.2.1, hl.2.2.1, hl.2.2.2.1]; exact .w4 _ _ _ _ _ h h1 h2 h3 h4
theorem One.cont {l : List Nat} {p w : Nat} (h : One l p w) : ∀ i b, 1 ≤ i → i < w → l[i]? = some b → 128 ≤ b ∧ b ≤ 191 := by
  intro i b hi hw hb
  cases h with
  | w1 b0 r h => omega
  | w2 b0 b1 r h h1 =>
    have : i = 1 := by omega
    subst this
    simp only [List.getElem?_cons_succ, List.getElem?_cons_zero, Option.some.injEq] at hb
    omega
  | w3 b0 b1 b2 r h h1 h2 h3 =>
    have : i = 1 ∨ i = 2 := by omega
    rcases this with rfl | rfl <;> simp only [List.getElem?_cons_succ, List.getElem?_cons_zero, Option.some.injEq] at hb <;> omega
  | w4 b0 b1 b2 b3 r h h1 h2 h3 h4 =>
    have : i = 1 ∨ i = 2 ∨ i = 3 := by omega
    rcases this with rfl | rfl | rfl <;> simp only [List.getElem?_cons_succ, List.getElem?_cons_zero, Option.some.injEq] at hb <;> omega
theorem One.head {b : Nat} {r : List Nat} {p w : Nat} (h : One (b :: r) p w) : ¬ (128 ≤ b ∧ b ≤ 191) := by
  cases h <;> omega
theorem byt_get (s : ByteArray) (i k : Nat) : sidx s ((i + k : Nat) : Int) = (((bytN s).drop i)[k]?).map fun n : Nat => (n : Int) := by
  rw [sidx_get, byt_bytN, List.getElem?_map, List.getElem?_drop]
theorem oneN_w {l : List Nat} {p w : Nat} (h : oneN l = some (p, w)) : 1 ≤ w ∧ w ≤ 4 ∧ w ≤ l.length ∧ p ≤ 1114111 ∧ (w = 1 → p < 128) ∧ (w = 2 → 128 ≤ p ∧ p < 2048) ∧ (w = 3 → 2048 ≤ p ∧ p < 65536) ∧ (w = 4 → 65536 ≤ p) := by
  cases oneN_One h with
  | w1 b0 r h => simp only [List.length_cons]; omega
  | w2 b0 b1 r h h1 => simp only [List.length_cons]; omega
  | w3 b0 b1 b2 r h h1 h2 h3 => simp only [List.length_cons]; omega
  | w4 b0 b1 b2 b3 r h h1 h2 h3 h4 => simp only [List.length_cons]; omega
theorem f66_eq (m : Nat) (l : List Nat) (p w : Nat) (h : oneN l = some (p, w)) : f66 m (p : Int) = some (w : Int) := by
  obtain ⟨h1, h2, h3, h4, h5, h6, h7, h8⟩ := oneN_w h
  have hw : w = 1 ∨ w = 2 ∨ w = 3 ∨ w = 4 := by omega
  unfold f66
  rcases hw with rfl | rfl | rfl | rfl
  · have := h5 rfl
    rw [decide_eq_true (by omega)]; rfl
  · have := h6 rfl
    rw [decide_eq_false (by omega), decide_eq_true (by omega)]; rfl
  · have := h7 rfl
    rw [decide_eq_false (by omega), decide_eq_false (by omega), decide_eq_true (by omega)]; rfl
  · have := h8 rfl
    rw [decide_eq_false (by omega), decide_eq_false (by omega), decide_eq_false (by omega)]; rfl
def conts : Nat → List Nat → Nat → Option Nat
  | v, _, 0 => some v
  | v, b :: l, d + 1 => if 128 ≤ b ∧ b ≤ 191 then conts (v * 64 + (b - 128)) l d else none
  | v, [], d + 1 => none
def BB : Nat → Nat
  | 3 => 100
  | 2 => 6500
  | 1 => 420000
  | _ => 27000000
theorem BB_step (d : Nat) (hd : d + 1 ≤ 3) : BB (d + 1) * 64 + 63 ≤ BB d := by
  have : d = 0 ∨ d = 1 ∨ d = 2 := by omega
  rcases this with rfl | rfl | rfl <;> decide
theorem BB_le (d : Nat) : BB d ≤ 27000000 := by
  match d with
  | 0 => decide
  | 1 => decide
  | 2 => decide
  | 3 => decide
  | d + 4 => exact Nat.le_refl _
theorem f65_loop (m : Nat) (s : ByteArray) (i n : Nat) (hn : i + n ≤ s.size) (hs : s.size ≤ 4000) : ∀ (d K k v : Nat), k + d = n → d < K → d ≤ 3 → v ≤ BB d →
    iter (fun (y : Int × Int) => f65_B2 m s (i : Int) (n : Int) y.1 y.2) K ((v : Int), (k : Int)) = match conts v ((bytN s).drop (i + k)) d with
      | some r => some (.inr ((r : Int), (n : Int)))
      | none => some (.inl (-1))
  | d, 0, k, v, h1, h2, h3, h4 => by omega
  | 0, K + 1, k, v, h1, h2, h3, h4 => by
    have hk : k = n := by omega
    subst hk
    have e0 : f65_B2 m s (i : Int) (k : Int) (v : Int) (k : Int) = some (.brk ((v : Int), (k : Int))) := by
      unfold f65_B2
      rw [decide_eq_false (by omega), cnd_false]
    unfold iter
    simp only [e0, conts]
  | d + 1, K + 1, k, v, h1, h2, h3, h4 => by
    have hlt : i + k < s.size := by omega
    have hl : i + k < (bytN s).length := by rw [bytN_len]; exact hlt
    have hb := bytN_lt s ((bytN s)[i + k]) (List.getElem_mem hl)
    have hw1 : w64 ((i : Int) + (k : Int)) = ((i + k : Nat) : Int) := by rw [w64_id ⟨by omega, by omega⟩]; omega
    have hw2 : w64 ((k : Int) + 1) = ((k + 1 : Nat) : Int) := by rw [w64_id ⟨by omega, by omega⟩]; omega
    have hx : sidx s ((i + k : Nat) : Int) = some (((bytN s)[i + k] : Nat) : Int) := by
      have := byt_get s (i + k) 0
      rw [Nat.add_zero] at this
      rw [this, List.getElem?_drop, Nat.add_zero, List.getElem?_eq_getElem hl]; rfl
    rw [List.drop_eq_getElem_cons hl]
    generalize (bytN s)[i + k] = b at *
    have hw3 : w64 (b : Int) = (b : Int) := w64_id ⟨by omega, by omega⟩
    have hB := BB_step d h3
    have hBl := BB_le d
    simp only [conts]
    by_cases hc : 128 ≤ b ∧ b ≤ 191
    · have hw4 : w64 ((v : Int) * 64) = ((v * 64 : Nat) : Int) := by rw [w64_id ⟨by omega, by omega⟩]; omega
      have hw5 : w64 (((v * 64 : Nat) : Int) + (b : Int)) = ((v * 64 + b : Nat) : Int) := by rw [w64_id ⟨by omega, by omega⟩]; omega
      have hw6 : w64 (((v * 64 + b : Nat) : Int) - 128) = ((v * 64 + (b - 128) : Nat) : Int) := by rw [w64_id ⟨by omega, by omega⟩]; omega
      have e0 : f65_B2 m s (i : Int) (n : Int) (v : Int) (k : Int) = some (.nxt (((v * 64 + (b - 128) : Nat) : Int), ((k + 1 : Nat) : Int))) := by
        unfold f65_B2
        rw [decide_eq_true (by omega), cnd_true, hw1, hx]
        simp only [bnd_some', f65_r1, hw3, hw4, hw5, hw6, hw2]
        rw [decide_eq_false (by omega), decide_eq_false (by omega)]
        rfl
      have ih := f65_loop m s i n hn hs d K (k + 1) (v * 64 + (b - 128)) (by omega) (by omega) (by omega) (by omega)
      rw [if_pos hc]
      unfold iter
      simp only [e0]
      exact ih
    · have e0 : f65_B2 m s (i : Int) (n : Int) (v : Int) (k : Int) = some (.ret (-1)) := by
        unfold f65_B2
        rw [decide_eq_true (by omega), cnd_true, hw1, hx]
        simp only [bnd_some', f65_r1, hw3]
        have : (decide ((b : Int) < 128) || decide ((b : Int) > 191)) = true := by
          simp only [Bool.or_eq_true, decide_eq_true_eq]; omega
        rw [this]
        rfl
      rw [if_neg hc]
      unfold iter
      simp only [e0]
/-- what the loop's value comes to -/
def fin (n : Nat) : Option Nat → Int
  | some r => if (r < 55296 ∨ (57344 ≤ r ∧ r ≤ 1114111)) ∧ (if r < 128 then 1 else if r < 2048 then 2 else if r < 65536 then 3 else 4) = n then (r : Int) else -1
  | none => -1
set_option maxRecDepth 100000 in
theorem f65_j4_eq (m : Nat) (s : ByteArray) (i n v : Nat) (h1 : 1 ≤ n) (h4 : n ≤ 4) (hv : v ≤ BB (n - 1)) (hi : i < s.size) (hs : s.size ≤ 4000) (hm : 5 < m) :
    f65_j4 m s (i : Int) (n : Int) (v : Int) = some (if i + n ≤ s.size then fin n (conts v ((bytN s).drop (i + 1)) (n - 1)) else -1) := by
  unfold f65_j4
  have hw1 : w64 ((i : Int) + (n : Int)) = ((i + n : Nat) : Int) := by rw [w64_id ⟨by omega, by omega⟩]; omega
  rw [hw1]
  by_cases hn : i + n ≤ s.size
  · rw [decide_eq_false (by omega), if_pos hn, cnd_false]
    have e := f65_loop m s i n hn hs (n - 1) m 1 v (by omega) (by omega) (by omega) hv
    have e : iter (fun (y : Int × Int) => f65_B2 m s (i : Int) (n : Int) y.1 y.2) m ((v : Int), 1) = _ := e
    rw [e]
    cases hc : conts v ((bytN s).drop (i + 1)) (n - 1) with
    | none => rfl
    | some r =>
      simp only [brk_inr, f85, f85_r2, f85_r1, bnd_some']
      have hsc : (((decide ((r : Int) ≥ 0)) && (decide ((r : Int) < 55296))) || ((decide ((r : Int) > 57343)) && (decide ((r : Int) ≤ 1114111)))) = decide (r < 55296 ∨ (57344 ≤ r ∧ r ≤ 1114111)) := by
        rw [Bool.eq_iff_iff]
        simp only [Bool.or_eq_true, Bool.and_eq_true, decide_eq_true_eq]
        omega
      have hwd : f66 m (r : Int) = some ((if r < 128 then 1 else if r < 2048 then 2 else if r < 65536 then 3 else 4 : Nat) : Int) := by
        unfold f66
        by_cases k1 : r < 128
        · rw [decide_eq_true (by omega), if_pos k1]; rfl
        · rw [decide_eq_false (by omega), if_neg k1]
          by_cases k2 : r < 2048
          · rw [decide_eq_true (by omega), if_pos k2]; rfl
          · rw [decide_eq_false (by omega), if_neg k2]
            by_cases k3 : r < 65536
            · rw [decide_eq_true (by omega), if_pos k3]; rfl
            · rw [decide_eq_false (by omega), if_neg k3]; rfl
      rw [hsc, hwd]
      simp only [fin]
      generalize (if r < 128 then 1 else if r < 2048 then 2 else if r < 65536 then 3 else 4 : Nat) = wd
      by_cases hq : r < 55296 ∨ (57344 ≤ r ∧ r ≤ 1114111)
      · rw [decide_eq_true hq]
        simp only [Bool.not_true, cnd_false, bnd_some', f65_r3]
        by_cases hwn : wd = n
        · subst hwn
          have hb : (((wd : Nat) : Int) != ((wd : Nat) : Int)) = false := by simp
          rw [hb, cnd_false, if_pos ⟨hq, rfl⟩]
        · have hb : (((wd : Nat) : Int) != ((n : Nat) : Int)) = true := by simp only [bne_iff_ne, ne_eq]; omega
          rw [hb, cnd_true, if_neg (fun h => hwn h.2)]
      · rw [decide_eq_false hq]
        simp only [Bool.not_false, cnd_true, bnd_some', f65_r3]
        rw [if_neg (fun h => hq h.1)]
  · rw [decide_eq_true (by omega), if_neg hn]; rfl

/-- the first code point, or -1 -/
def oneS (l : List Nat) : Int := match oneN l with
  | some (p, _) => (p : Int)
  | none => -1
theorem lead4 (b0 : Nat) (h : 240 ≤ b0 ∧ b0 < 256) : ∀ rest : List Nat, (if 3 ≤ rest.length then fin 4 (conts (b0 - 240) rest 3) else -1) = oneS (b0 :: rest)
  | [] => by
    have : oneN [b0] = none := by simp only [oneN]; rw [if_neg (by omega), if_neg (by omega), if_neg (by omega), if_neg (by omega)]; split <;> rfl
    unfold oneS; rw [this]; rfl
  | [x] => by
    have : oneN [b0, x] = none := by simp only [oneN]; rw [if_neg (by omega), if_neg (by omega), if_neg (by omega), if_neg (by omega)]; split <;> rfl
    unfold oneS; rw [this]; rfl
  | [x, y] => by
    have : oneN [b0, x, y] = none := by simp only [oneN]; rw [if_neg (by omega), if_neg (by omega), if_neg (by omega), if_neg (by omega)]; split <;> rfl
    unfold oneS; rw [this]; rfl
  | x :: y :: z :: r => by
    rw [if_pos (by simp only [List.length_cons]; omega)]
    have e : oneN (b0 :: x :: y :: z :: r) = if b0 < 245 then (if (128 ≤ x ∧ x ≤ 191) ∧ (128 ≤ y ∧ y ≤ 191) ∧ (128 ≤ z ∧ z ≤ 191) ∧ 65536 ≤ (b0 - 240) * 262144 + (x - 128) * 4096 + (y - 128) * 64 + (z - 128) ∧ (b0 - 240) * 262144 + (x - 128) * 4096 + (y - 128) * 64 + (z - 128) ≤ 1114111 then some ((b0 - 240) * 262144 + (x - 128) * 4096 + (y - 128) * 64 + (z - 128), 4) else none) else none := by
      simp only [oneN]; rw [if_neg (by omega), if_neg (by omega), if_neg (by omega), if_neg (by omega)]
    have e2 : conts (b0 - 240) (x :: y :: z :: r) 3 = if (128 ≤ x ∧ x ≤ 191) ∧ (128 ≤ y ∧ y ≤ 191) ∧ (128 ≤ z ∧ z ≤ 191) then some ((((b0 - 240) * 64 + (x - 128)) * 64 + (y - 128)) * 64 + (z - 128)) else none := by
      simp only [conts]
      by_cases h1 : 128 ≤ x ∧ x ≤ 191
      · by_cases h2 : 128 ≤ y ∧ y ≤ 191
        · by_cases h3 : 128 ≤ z ∧ z ≤ 191
          · rw [if_pos h1, if_pos h2, if_pos h3, if_pos ⟨h1, h2, h3⟩]
          · rw [if_pos h1, if_pos h2, if_neg h3, if_neg (fun h => h3 h.2.2)]
        · rw [if_pos h1, if_neg h2, if_neg (fun h => h2 h.2.1)]
      · rw [if_neg h1, if_neg (fun h => h1 h.1)]
    unfold oneS
    rw [e, e2]
    by_cases hc : (128 ≤ x ∧ x ≤ 191) ∧ (128 ≤ y ∧ y ≤ 191) ∧ (128 ≤ z ∧ z ≤ 191)
    · rw [if_pos hc]
      have e3 : (((b0 - 240) * 64 + (x - 128)) * 64 + (y - 128)) * 64 + (z - 128) = (b0 - 240) * 262144 + (x - 128) * 4096 + (y - 128) * 64 + (z - 128) := by omega
      rw [e3]
      by_cases hr : 65536 ≤ (b0 - 240) * 262144 + (x - 128) * 4096 + (y - 128) * 64 + (z - 128) ∧ (b0 - 240) * 262144 + (x - 128) * 4096 + (y - 128) * 64 + (z - 128) ≤ 1114111
      · rw [if_pos (by omega), if_pos ⟨hc.1, hc.2.1, hc.2.2, hr⟩]
        simp only [fin]
        rw [if_neg (by omega : ¬ (b0 - 240) * 262144 + (x - 128) * 4096 + (y - 128) * 64 + (z - 128) < 128), if_neg (by omega : ¬ (b0 - 240) * 262144 + (x - 128) * 4096 + (y - 128) * 64 + (z - 128) < 2048), if_neg (by omega : ¬ (b0 - 240) * 262144 + (x - 128) * 4096 + (y - 128) * 64 + (z - 128) < 65536), if_pos ⟨by omega, rfl⟩]
      · have hn : (if b0 < 245 then (if (128 ≤ x ∧ x ≤ 191) ∧ (128 ≤ y ∧ y ≤ 191) ∧ (128 ≤ z ∧ z ≤ 191) ∧ 65536 ≤ (b0 - 240) * 262144 + (x - 128) * 4096 + (y - 128) * 64 + (z - 128) ∧ (b0 - 240) * 262144 + (x - 128) * 4096 + (y - 128) * 64 + (z - 128) ≤ 1114111 then some ((b0 - 240) * 262144 + (x - 128) * 4096 + (y - 128) * 64 + (z - 128), 4) else none) else none : Option (Nat × Nat)) = none := by
          split
          · rw [if_neg (fun h => hr h.2.2.2)]
          · rfl
        rw [hn]
        simp only [fin]
        refine if_neg fun hh => hr ?_
        obtain ⟨h1, h2⟩ := hh
        split at h2
        · omega
        · split at h2
          · omega
          · split at h2
            · omega
            · omega
    · rw [if_neg hc]
      have hn : (if b0 < 245 then (if (128 ≤ x ∧ x ≤ 191) ∧ (128 ≤ y ∧ y ≤ 191) ∧ (128 ≤ z ∧ z ≤ 191) ∧ 65536 ≤ (b0 - 240) * 262144 + (x - 128) * 4096 + (y - 128) * 64 + (z - 128) ∧ (b0 - 240) * 262144 + (x - 128) * 4096 + (y - 128) * 64 + (z - 128) ≤ 1114111 then some ((b0 - 240) * 262144 + (x - 128) * 4096 + (y - 128) * 64 + (z - 128), 4) else none) else none : Option (Nat × Nat)) = none := by
        split
        · rw [if_neg (fun h => hc ⟨h.1, h.2.1, h.2.2.1⟩)]
        · rfl
      rw [hn]; rfl
theorem lead3 (b0 : Nat) (h : 224 ≤ b0 ∧ b0 < 240) : ∀ rest : List Nat, (if 2 ≤ rest.length then fin 3 (conts (b0 - 224) rest 2) else -1) = oneS (b0 :: rest)
  | [] => by
    have : oneN [b0] = none := by simp only [oneN]; rw [if_neg (by omega), if_neg (by omega), if_neg (by omega), if_pos h.2]
    unfold oneS; rw [this]; rfl
  | [x] => by
    have : oneN [b0, x] = none := by simp only [oneN]; rw [if_neg (by omega), if_neg (by omega), if_neg (by omega), if_pos h.2]
    unfold oneS; rw [this]; rfl
  | x :: y :: r => by
    rw [if_pos (by simp only [List.length_cons]; omega)]
    have e : oneN (b0 :: x :: y :: r) = if (128 ≤ x ∧ x ≤ 191) ∧ (128 ≤ y ∧ y ≤ 191) ∧ 2048 ≤ (b0 - 224) * 4096 + (x - 128) * 64 + (y - 128) ∧ ((b0 - 224) * 4096 + (x - 128) * 64 + (y - 128) < 55296 ∨ 57344 ≤ (b0 - 224) * 4096 + (x - 128) * 64 + (y - 128)) then some ((b0 - 224) * 4096 + (x - 128) * 64 + (y - 128), 3) else none := by
      simp only [oneN]; rw [if_neg (by omega), if_neg (by omega), if_neg (by omega), if_pos h.2]
    have e2 : conts (b0 - 224) (x :: y :: r) 2 = if (128 ≤ x ∧ x ≤ 191) ∧ (128 ≤ y ∧ y ≤ 191) then some (((b0 - 224) * 64 + (x - 128)) * 64 + (y - 128)) else none := by
      simp only [conts]
      by_cases h1 : 128 ≤ x ∧ x ≤ 191
      · by_cases h2 : 128 ≤ y ∧ y ≤ 191
        · rw [if_pos h1, if_pos h2, if_pos ⟨h1, h2⟩]
        · rw [if_pos h1, if_neg h2, if_neg (fun h => h2 h.2)]
      · rw [if_neg h1, if_neg (fun h => h1 h.1)]
    unfold oneS
    rw [e, e2]
    by_cases hc : (128 ≤ x ∧ x ≤ 191) ∧ (128 ≤ y ∧ y ≤ 191)
    · rw [if_pos hc]
      have e3 : ((b0 - 224) * 64 + (x - 128)) * 64 + (y - 128) = (b0 - 224) * 4096 + (x - 128) * 64 + (y - 128) := by omega
      rw [e3]
      by_cases hr : 2048 ≤ (b0 - 224) * 4096 + (x - 128) * 64 + (y - 128) ∧ ((b0 - 224) * 4096 + (x - 128) * 64 + (y - 128) < 55296 ∨ 57344 ≤ (b0 - 224) * 4096 + (x - 128) * 64 + (y - 128))
      · rw [if_pos ⟨hc.1, hc.2, hr⟩]
        simp only [fin]
        rw [if_neg (by omega : ¬ (b0 - 224) * 4096 + (x - 128) * 64 + (y - 128) < 128), if_neg (by omega : ¬ (b0 - 224) * 4096 + (x - 128) * 64 + (y - 128) < 2048), if_pos (by omega : (b0 - 224) * 4096 + (x - 128) * 64 + (y - 128) < 65536), if_pos ⟨by omega, rfl⟩]
      · rw [if_neg (fun h => hr h.2.2)]
        simp only [fin]
        refine if_neg fun hh => hr ?_
        obtain ⟨h1, h2⟩ := hh
        split at h2
        · omega
        · split at h2
          · omega
          · split at h2
            · omega
            · omega
    · rw [if_neg hc, if_neg (fun h => hc ⟨h.1, h.2.1⟩)]; rfl
theorem lead2 (b0 : Nat) (h : 192 ≤ b0 ∧ b0 < 224) : ∀ rest : List Nat, (if 1 ≤ rest.length then fin 2 (conts (b0 - 192) rest 1) else -1) = oneS (b0 :: rest)
  | [] => by
    have : oneN [b0] = none := by
      simp only [oneN]; rw [if_neg (by omega)]
      split
      · rfl
      · rw [if_pos h.2]
    unfold oneS; rw [this]; rfl
  | x :: r => by
    rw [if_pos (by simp only [List.length_cons]; omega)]
    have e : oneN (b0 :: x :: r) = if b0 < 194 then none else if 128 ≤ x ∧ x ≤ 191 then some ((b0 - 192) * 64 + (x - 128), 2) else none := by
      simp only [oneN]; rw [if_neg (by omega), if_pos h.2]
    have e2 : conts (b0 - 192) (x :: r) 1 = if 128 ≤ x ∧ x ≤ 191 then some ((b0 - 192) * 64 + (x - 128)) else none := by simp only [conts]
    unfold oneS
    rw [e, e2]
    by_cases hc : 128 ≤ x ∧ x ≤ 191
    · rw [if_pos hc, if_pos hc]
      by_cases hr : b0 < 194
      · rw [if_pos hr]
        simp only [fin]
        rw [if_pos (by omega : (b0 - 192) * 64 + (x - 128) < 128), if_neg (fun h => by cases h.2)]
      · rw [if_neg hr]
        simp only [fin]
        rw [if_neg (by omega : ¬ (b0 - 192) * 64 + (x - 128) < 128), if_pos (by omega : (b0 - 192) * 64 + (x - 128) < 2048), if_pos ⟨by omega, rfl⟩]
    · rw [if_neg hc, if_neg hc]
      have : (if b0 < 194 then none else none : Option (Nat × Nat)) = none := by split <;> rfl
      rw [this]; rfl
theorem f65_eq (m : Nat) (s : ByteArray) (i : Nat) (hi : i < s.size) (hs : s.size ≤ 4000) (hm : 5 < m) : f65 m s (i : Int) = some (oneS ((bytN s).drop i)) := by
  have hl : i < (bytN s).length := by rw [bytN_len]; exact hi
  have hb := bytN_lt s ((bytN s)[i]) (List.getElem_mem hl)
  have hx : sidx s (i : Int) = some (((bytN s)[i] : Nat) : Int) := by
    have := byt_get s i 0
    rw [Nat.add_zero] at this
    rw [this, List.getElem?_drop, Nat.add_zero, List.getElem?_eq_getElem hl]; rfl
  have hd := List.drop_eq_getElem_cons hl
  have hrl : ((bytN s).drop (i + 1)).length = s.size - (i + 1) := by rw [List.length_drop, bytN_len]
  rw [hd]
  unfold f65
  rw [hx]
  generalize (bytN s)[i] = b at *
  have hw : w64 (b : Int) = (b : Int) := w64_id ⟨by omega, by omega⟩
  simp only [bnd_some', hw]
  by_cases k4 : 240 ≤ b
  · rw [decide_eq_true (by omega), cnd_true]
    have hw4 : w64 ((b : Int) - 240) = ((b - 240 : Nat) : Int) := by rw [w64_id ⟨by omega, by omega⟩]; omega
    rw [hw4]
    refine (f65_j4_eq m s i 4 (b - 240) (by omega) (by omega) (by show b - 240 ≤ 100; omega) hi hs hm).trans ?_
    rw [← lead4 b ⟨k4, hb⟩, hrl]
    have : (i + 4 ≤ s.size) = (3 ≤ s.size - (i + 1)) := propext ⟨fun h => by omega, fun h => by omega⟩
    simp only [this]
  rw [decide_eq_false (by omega), cnd_false]
  by_cases k3 : 224 ≤ b
  · rw [decide_eq_true (by omega), cnd_true]
    have hw4 : w64 ((b : Int) - 224) = ((b - 224 : Nat) : Int) := by rw [w64_id ⟨by omega, by omega⟩]; omega
    rw [hw4]
    refine (f65_j4_eq m s i 3 (b - 224) (by omega) (by omega) (by show b - 224 ≤ 6500; omega) hi hs hm).trans ?_
    rw [← lead3 b ⟨k3, by omega⟩, hrl]
    have : (i + 3 ≤ s.size) = (2 ≤ s.size - (i + 1)) := propext ⟨fun h => by omega, fun h => by omega⟩
    simp only [this]
  rw [decide_eq_false (by omega), cnd_false]
  by_cases k2 : 192 ≤ b
  · rw [decide_eq_true (by omega), cnd_true]
    have hw4 : w64 ((b : Int) - 192) = ((b - 192 : Nat) : Int) := by rw [w64_id ⟨by omega, by omega⟩]; omega
    rw [hw4]
    refine (f65_j4_eq m s i 2 (b - 192) (by omega) (by omega) (by show b - 192 ≤ 420000; omega) hi hs hm).trans ?_
    rw [← lead2 b ⟨k2, by omega⟩, hrl]
    have : (i + 2 ≤ s.size) = (1 ≤ s.size - (i + 1)) := propext ⟨fun h => by omega, fun h => by omega⟩
    simp only [this]
  rw [decide_eq_false (by omega), cnd_false]
  by_cases k1 : 128 ≤ b
  · rw [decide_eq_true (by omega), cnd_true]
    unfold oneS
    simp only [oneN]
    rw [if_neg (by omega), if_pos (by omega)]
  · rw [decide_eq_false (by omega), cnd_false]
    refine (f65_j4_eq m s i 1 b (by omega) (by omega) (by show b ≤ 27000000; omega) hi hs hm).trans ?_
    rw [if_pos (by omega)]
    unfold oneS
    simp only [oneN, conts, fin, Nat.sub_self]
    rw [if_pos (by omega : b < 128), if_pos (by omega : b < 128), if_pos ⟨by omega, rfl⟩]
end Go.Abs
