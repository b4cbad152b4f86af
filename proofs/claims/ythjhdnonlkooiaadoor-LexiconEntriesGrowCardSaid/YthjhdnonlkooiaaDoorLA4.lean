import Derived.Test.YthjhdnonlkooiaaDoorLA3
namespace Go.Abs
set_option linter.unusedVariables false
theorem One.width {l : List Nat} {p w : Nat} (h : One l p w) : 1 ≤ w ∧ w ≤ l.length := by
  have := oneN_w h.toN
  exact ⟨this.1, this.2.2.1⟩
def pts : Nat → List Nat → Option (List Nat)
  | _, [] => some []
  | 0, _ :: _ => none
  | n + 1, b :: l => match oneN (b :: l) with
    | some (p, w) => (pts n ((b :: l).drop w)).map (p :: ·)
    | none => none
theorem pts_fuel : ∀ (n m : Nat) (l : List Nat), l.length ≤ n → l.length ≤ m → pts n l = pts m l
  | 0, 0, [], _, _ => rfl
  | 0, m + 1, [], _, _ => rfl
  | n + 1, 0, [], _, _ => rfl
  | n + 1, m + 1, [], _, _ => rfl
  | 0, _, b :: l, h, _ => by simp at h
  | n + 1, 0, b :: l, _, h => by simp at h
  | n + 1, m + 1, b :: l, h1, h2 => by
    simp only [pts]
    cases hq : oneN (b :: l) with
    | none => rfl
    | some x =>
      obtain ⟨p, w⟩ := x
      have hw := (oneN_One hq).width
      have : ((b :: l).drop w).length ≤ n ∧ ((b :: l).drop w).length ≤ m := by
        rw [List.length_drop]
        simp only [List.length_cons] at h1 h2 hw ⊢
        omega
      simp only
      rw [pts_fuel n m _ this.1 this.2]
/-- the code points of bytes -/
def ptsB (l : List Nat) : Option (List Nat) := pts l.length l
theorem ptsB_nil : ptsB [] = some [] := rfl
theorem ptsB_bad {l : List Nat} (hne : l ≠ []) (h : oneN l = none) : ptsB l = none := by
  cases l with
  | nil => exact (hne rfl).elim
  | cons b l => unfold ptsB; simp only [List.length_cons, pts, h]
theorem ptsB_one {l : List Nat} {p w : Nat} (h : oneN l = some (p, w)) : ptsB l = (ptsB (l.drop w)).map (p :: ·) := by
  cases l with
  | nil => cases h
  | cons b l =>
    have hw := (oneN_One h).width
    unfold ptsB
    simp only [List.length_cons, pts, h]
    rw [pts_fuel l.length ((b :: l).drop w).length _ (by rw [List.length_drop]; simp only [List.length_cons]; omega) (Nat.le_refl _)]
theorem ptsB_cat : ∀ (n : Nat) (a b La Lb : List Nat), a.length ≤ n → ptsB a = some La → ptsB b = some Lb → ptsB (a ++ b) = some (La ++ Lb)
  | n, [], b, La, Lb, _, ha, hb => by
    rw [ptsB_nil] at ha
    cases ha
    exact hb
  | 0, x :: a, b, La, Lb, hn, ha, hb => by simp at hn
  | n + 1, x :: a, b, La, Lb, hn, ha, hb => by
    cases hq : oneN (x :: a) with
    | none => rw [ptsB_bad (by simp) hq] at ha; cases ha
    | some y =>
      obtain ⟨p, w⟩ := y
      have h1 := oneN_One hq
      have hw := h1.width
      rw [ptsB_one hq] at ha
      obtain ⟨La', hLa, rfl⟩ := Option.map_eq_some_iff.1 ha
      have h2 : oneN (x :: a ++ b) = some (p, w) := (h1.app).toN
      rw [ptsB_one h2]
      have e : (x :: a ++ b).drop w = (x :: a).drop w ++ b := List.drop_append_of_le_length hw.2
      rw [e, ptsB_cat n _ b La' Lb (by rw [List.length_drop]; simp only [List.length_cons] at hn ⊢; omega) hLa hb]
      rfl
theorem ptsB_cut : ∀ (n : Nat) (a b L : List Nat), a.length ≤ n → ptsB (a ++ b) = some L → (∀ x r, b = x :: r → ¬ (128 ≤ x ∧ x ≤ 191)) → ∃ La Lb, ptsB a = some La ∧ ptsB b = some Lb ∧ L = La ++ Lb
  | n, [], b, L, _, h, _ => ⟨[], L, rfl, h, rfl⟩
  | 0, x :: a, b, L, hn, h, _ => by simp at hn
  | n + 1, x :: a, b, L, hn, h, hb => by
    cases hq : oneN (x :: a ++ b) with
    | none => rw [ptsB_bad (by simp) hq] at h; cases h
    | some y =>
      obtain ⟨p, w⟩ := y
      have h1 := oneN_One hq
      have hw1 : w ≤ (x :: a).length := by
        rcases Nat.lt_or_ge (x :: a).length w with hlt | hge
        · exfalso
          cases b with
          | nil =>
            have := h1.width.2
            rw [List.append_nil] at this
            omega
          | cons y r =>
            have hc := h1.cont (x :: a).length y (by simp) hlt (by rw [List.getElem?_append_right (Nat.le_refl _), Nat.sub_self]; rfl)
            exact hb y r rfl hc
        · exact hge
      have h2 := h1.cut hw1
      have hw := h2.width
      rw [ptsB_one hq] at h
      obtain ⟨L', hL, rfl⟩ := Option.map_eq_some_iff.1 h
      have e : (x :: a ++ b).drop w = (x :: a).drop w ++ b := List.drop_append_of_le_length hw.2
      rw [e] at hL
      obtain ⟨La, Lb, e1, e2, e3⟩ := ptsB_cut n _ b L' (by rw [List.length_drop]; simp only [List.length_cons] at hn ⊢; omega) hL hb
      exact ⟨p :: La, Lb, by rw [ptsB_one h2.toN, e1]; rfl, e2, by rw [e3]; rfl⟩
theorem ptsB_head {b : Nat} {r L : List Nat} (h : ptsB (b :: r) = some L) : ¬ (128 ≤ b ∧ b ≤ 191) := by
  cases hq : oneN (b :: r) with
  | none => rw [ptsB_bad (by simp) hq] at h; cases h
  | some y => obtain ⟨p, w⟩ := y; exact (oneN_One hq).head
theorem ptsB_len : ∀ (n : Nat) (l L : List Nat), l.length ≤ n → ptsB l = some L → L.length ≤ l.length ∧ l.length ≤ 4 * L.length ∧ ∀ p ∈ L, p ≤ 1114111
  | n, [], L, _, h => by rw [ptsB_nil] at h; cases h; exact ⟨Nat.le_refl _, Nat.le_refl _, fun p hp => by cases hp⟩
  | 0, x :: a, L, hn, h => by simp at hn
  | n + 1, x :: a, L, hn, h => by
    cases hq : oneN (x :: a) with
    | none => rw [ptsB_bad (by simp) hq] at h; cases h
    | some y =>
      obtain ⟨p, w⟩ := y
      obtain ⟨g1, g2, g3, g4, _⟩ := oneN_w hq
      rw [ptsB_one hq] at h
      obtain ⟨L', hL, rfl⟩ := Option.map_eq_some_iff.1 h
      have ih := ptsB_len n _ L' (by rw [List.length_drop]; simp only [List.length_cons] at hn ⊢; omega) hL
      rw [List.length_drop] at ih
      refine ⟨by simp only [List.length_cons] at *; omega, by simp only [List.length_cons] at *; omega, fun q hq => ?_⟩
      rcases List.mem_cons.1 hq with rfl | hq
      · exact g4
      · exact ih.2.2 q hq
/-- the code points of a string -/
def ptsS (s : ByteArray) : Option (List Nat) := ptsB (bytN s)
theorem bytN_cat (a b : ByteArray) : bytN (a ++ b) = bytN a ++ bytN b := by
  unfold bytN
  rw [ByteArray.data_append, Array.toList_append, List.map_append]
theorem bytN_extract (s : ByteArray) (i j : Nat) : bytN (s.extract i j) = ((bytN s).drop i).take (j - i) := by
  unfold bytN
  rw [ByteArray.data_extract, Array.toList_extract]
  simp only [List.extract_eq_take_drop, List.map_take, List.map_drop]
theorem bytN_inj {a b : ByteArray} (h : bytN a = bytN b) : a = b := by
  unfold bytN at h
  have h1 : a.data.toList = b.data.toList := by
    have := (List.map_inj_right (f := fun b : UInt8 => b.toNat) (fun x y e => UInt8.toNat_inj.1 e)).1 h
    exact this
  have h2 : a.data = b.data := by rw [← Array.toArray_toList (xs := a.data), h1, Array.toArray_toList]
  cases a; cases b; simp only at h2; rw [h2]
theorem runeFrom (s : ByteArray) : ∀ (fuel pos : Nat) (L : List Nat), s.size ≤ pos + fuel → ptsB ((bytN s).drop pos) = some L → Lib.runeCountFrom s fuel pos = L.length
  | 0, pos, L, h, hL => by
    have : (bytN s).drop pos = [] := List.drop_eq_nil_iff.2 (by rw [bytN_len]; omega)
    rw [this, ptsB_nil] at hL
    cases hL
    rfl
  | fuel + 1, pos, L, h, hL => by
    unfold Lib.runeCountFrom
    by_cases hp : pos < s.size
    · rw [if_pos hp, decode_one s pos hp]
      cases hq : oneN ((bytN s).drop pos) with
      | none => rw [ptsB_bad (fun e => by have := List.drop_eq_nil_iff.1 e; rw [bytN_len] at this; omega) hq] at hL; cases hL
      | some y =>
        obtain ⟨p, w⟩ := y
        have hw := (oneN_One hq).width
        rw [ptsB_one hq] at hL
        obtain ⟨L', hL', rfl⟩ := Option.map_eq_some_iff.1 hL
        rw [List.drop_drop] at hL'
        have ih := runeFrom s fuel (pos + w) L' (by omega) hL'
        simp only [orBad, ih, List.length_cons]
        omega
    · have : (bytN s).drop pos = [] := List.drop_eq_nil_iff.2 (by rw [bytN_len]; omega)
      rw [this, ptsB_nil] at hL
      cases hL
      rw [if_neg hp]
      rfl
theorem runeCount_pts {s : ByteArray} {L : List Nat} (h : ptsS s = some L) : Lib.runeCount s = L.length := by
  unfold Lib.runeCount
  exact runeFrom s s.size 0 L (by omega) h
end Go.Abs
