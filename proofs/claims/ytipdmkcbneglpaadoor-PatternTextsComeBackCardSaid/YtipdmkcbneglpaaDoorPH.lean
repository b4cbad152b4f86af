/-
  PATTERNS, the plain laws: operators, and one part read as a greater one.
-/
import Derived.Test.YtipdmkcbneglpaaDoorPG
namespace Go.Abs
open Go.Sort Go.Proofs
set_option linter.unusedVariables false
set_option maxRecDepth 100000

theorem is_no (m : Nat) {l : List Nat} {i x : Nat} {r : List Nat} (h : Cut l i (x :: r)) (c : Nat) (hc : x ≠ c) : f46 m (⟨castL l, (i : Int)⟩ : S58) (c : Int) = some false := by
  have := is_eq m h c
  have h2 : ((x :: r).head? == some c) = false := by simp [hc]
  rw [h2] at this
  exact this
theorem is_yes (m : Nat) {l : List Nat} {i x : Nat} {r : List Nat} (h : Cut l i (x :: r)) : f46 m (⟨castL l, (i : Int)⟩ : S58) (x : Int) = some true := by
  have := is_eq m h x
  have h2 : ((x :: r).head? == some x) = true := by simp
  rw [h2] at this
  exact this
theorem rep_step (m : Nat) (K : Rec28) {l : List Nat} {i : Nat} {rest : List Nat} (q : S24) (a b : Int) (ha : 0 ≤ a ∧ a ≤ 9) (hb : -1 ≤ b ∧ b ≤ 9) (h : Cut l i (repT a b ++ rest)) (M : Nat) :
    iter (B67 m K) (M + 1) (lp true l i q) = iter (B67 m K) M (lp true l (i + (repT a b).length) (⟨5, [], [P24.con q], a, b⟩ : S24)) := by
  have key : B67 m K (lp true l i q) = some (.nxt (lp true l (i + (repT a b).length) (⟨5, [], [P24.con q], a, b⟩ : S24))) := by
    show f67_B7 m K true (castL l) (i : Int) q.fKind q.fLabels q.fSubs q.fLeast q.fMost = _
    unfold f67_B7
    rw [cnd_true]
    unfold repT at h ⊢
    split at h
    · rename_i h0
      rw [if_pos h0] at *
      have h : Cut l i (42 :: rest) := h
      have e1 := is_yes m h
      simp only [Int.cast_ofNat_Int] at e1
      rw [e1, bnd_some', cnd_true, bnd_some']
      unfold f67_r6
      rw [cnd_true, h.idx, bnd_some']
      show f67_j4 m K _ _ _ _ _ true (castL l) (w64 ((i : Int) + 1)) 0 (-1) = _
      have hb1 : b = -1 := by omega
      rw [h.w, h0.1, hb1]
      rfl
    · rename_i h0
      rw [if_neg h0] at *
      split at h
      · rename_i h1
        rw [if_pos h1] at *
        have h : Cut l i (43 :: rest) := h
        have e1 := is_no m h 42 (by decide)
        have e2 := is_yes m h
        simp only [Int.cast_ofNat_Int] at e1 e2
        rw [e1, bnd_some', cnd_false, e2, bnd_some', cnd_true, bnd_some']
        unfold f67_r6
        rw [cnd_true, h.idx, bnd_some']
        show f67_j2 m K _ _ _ _ _ true (castL l) (w64 ((i : Int) + 1)) 1 (-1) = _
        have hb1 : b = -1 := by omega
        rw [h.w, h1.1, hb1]
        rfl
      · rename_i h1
        rw [if_neg h1] at *
        split at h
        · rename_i h2
          rw [if_pos h2] at *
          have h : Cut l i (63 :: rest) := h
          have e1 := is_no m h 42 (by decide)
          have e2 := is_no m h 43 (by decide)
          have e3 := is_yes m h
          simp only [Int.cast_ofNat_Int] at e1 e2 e3
          rw [e1, bnd_some', cnd_false, e2, bnd_some', cnd_false, e3, bnd_some', cnd_true, bnd_some']
          unfold f67_r6
          rw [cnd_true, h.idx, bnd_some']
          show f67_j3 m K _ _ _ _ _ true (castL l) (w64 ((i : Int) + 1)) 0 1 = _
          rw [h.w, h2.1, h2.2]
          rfl
        · rename_i h2
          rw [if_neg h2] at *
          obtain ⟨a', rfl⟩ : ∃ a' : Nat, a = (a' : Int) := ⟨a.toNat, by omega⟩
          rw [Int.toNat_natCast] at *
          have h : Cut l i (123 :: ((48 + a') :: (44 :: ((if 0 ≤ b then [48 + b.toNat] else []) ++ (125 :: rest))))) := by simpa using h
          have e1 := is_no m h 42 (by decide)
          have e2 := is_no m h 43 (by decide)
          have e3 := is_no m h 63 (by decide)
          have e4 := is_yes m h
          have k1 := h.next
          have k2 := k1.next
          have k3 := k2.next
          have d1 := digit_eq m k1 (by omega)
          have i44 := is_yes m k2
          simp only [Int.cast_ofNat_Int] at e1 e2 e3 e4 i44
          rw [e1, bnd_some', cnd_false, e2, bnd_some', cnd_false, e3, bnd_some', cnd_false, e4, bnd_some', bnd_some']
          unfold f67_r6
          rw [cnd_true, h.idx, bnd_some']
          show (bnd (f75 m (⟨castL l, w64 ((i : Int) + 1)⟩ : S58)) fun v928 => _) = _
          have d1' : f75 m (⟨castL l, ((i + 1 : Nat) : Int)⟩ : S58) = some (((a' : Int), true), st l (i + 1 + 1)) := d1
          rw [h.w, d1', bnd_some']
          show (bnd (f46 m (⟨castL l, ((i + 1 + 1 : Nat) : Int)⟩ : S58) 44) fun v929 => _) = _
          rw [i44, bnd_some']
          show (bnd (f46 m (⟨castL l, w64 (((i + 1 + 1 : Nat) : Int) + 1)⟩ : S58) 125) fun v930 => _) = _
          rw [k2.w]
          by_cases hb0 : 0 ≤ b
          · rw [if_pos hb0] at k3 ⊢
            obtain ⟨b', rfl⟩ : ∃ b' : Nat, b = (b' : Int) := ⟨b.toNat, by omega⟩
            rw [Int.toNat_natCast] at *
            have k3 : Cut l (i + 1 + 1 + 1) ((48 + b') :: 125 :: rest) := k3
            have k4 := k3.next
            have n125 := is_no m k3 125 (by omega)
            have d2 := digit_eq m k3 (by omega)
            have y125 := is_yes m k4
            simp only [Int.cast_ofNat_Int] at n125 y125
            rw [n125, bnd_some']
            show (bnd (f75 m (⟨castL l, w64 (((i + 1 + 1 : Nat) : Int) + 1)⟩ : S58)) fun v959 => _) = _
            have d2' : f75 m (⟨castL l, ((i + 1 + 1 + 1 : Nat) : Int)⟩ : S58) = some (((b' : Int), true), st l (i + 1 + 1 + 1 + 1)) := d2
            rw [k2.w, d2', bnd_some']
            show f67_j5 m K q.fKind q.fLabels q.fSubs q.fLeast q.fMost (((a' : Int), true), st l (i + 1 + 1)) true (castL l) ((i + 1 + 1 + 1 + 1 : Nat) : Int) (b' : Int) = _
            unfold f67_j5
            rw [y125, bnd_some']
            show f67_j4 m K _ _ _ _ _ true (castL l) (w64 (((i + 1 + 1 + 1 + 1 : Nat) : Int) + 1)) (a' : Int) (b' : Int) = _
            rw [k4.w]
            rfl
          · rw [if_neg hb0] at k3 ⊢
            have k3 : Cut l (i + 1 + 1 + 1) (125 :: rest) := k3
            have y125 := is_yes m k3
            simp only [Int.cast_ofNat_Int] at y125
            rw [y125, bnd_some']
            show f67_j5 m K q.fKind q.fLabels q.fSubs q.fLeast q.fMost (((a' : Int), true), st l (i + 1 + 1)) true (castL l) (w64 (((i + 1 + 1 : Nat) : Int) + 1)) (-1) = _
            rw [k2.w]
            unfold f67_j5
            rw [y125, bnd_some']
            show f67_j4 m K _ _ _ _ _ true (castL l) (w64 (((i + 1 + 1 + 1 : Nat) : Int) + 1)) (a' : Int) (-1) = _
            have hb1 : b = -1 := by omega
            rw [k3.w, hb1]
            rfl
  conv => lhs; unfold iter
  rw [key]
theorem both_step (m : Nat) (K : Rec28) (d : Int) {l : List Nat} {i : Nat} {rest : List Nat} (q q' : S24) (T : List Nat) (six : Bool) (h : Cut l i ((if six then 38 else 45) :: (T ++ rest))) (hs : StopS rest) (hK : PP K.r61 StopS T q' d) (M : Nat) :
    iter (B45 m K d) (M + 1) (lp true l i q) = iter (B45 m K d) M (lp true l (i + 1 + T.length) (⟨if six then 6 else 7, [], [P24.con q, P24.con q'], 0, 0⟩ : S24)) := by
  have key : B45 m K d (lp true l i q) = some (.nxt (lp true l (i + 1 + T.length) (⟨if six then 6 else 7, [], [P24.con q, P24.con q'], 0, 0⟩ : S24))) := by
    show f45_B3 m K d true (castL l) (i : Int) q.fKind q.fLabels q.fSubs q.fLeast q.fMost = _
    have hn := h.next
    have hr := hK l (i + 1) rest hs hn
    have hr' : K.r61 (⟨castL l, w64 ((i : Int) + 1)⟩ : S58) d = some ((q', true), st l (i + 1 + T.length)) := by rw [h.w]; exact hr
    unfold f45_B3
    cases six with
    | true =>
      have h : Cut l i (38 :: (T ++ rest)) := h
      have e1 := is_yes m h
      have e2 := is_no m h 45 (by decide)
      simp only [Int.cast_ofNat_Int] at e1 e2
      rw [cnd_true, e1, bnd_some', cnd_true, bnd_some']
      unfold f45_r2 f45_j1
      rw [cnd_true, e2, bnd_some', cnd_false, hr', bnd_some']
      rfl
    | false =>
      have h : Cut l i (45 :: (T ++ rest)) := h
      have e1 := is_no m h 38 (by decide)
      have e2 := is_yes m h
      simp only [Int.cast_ofNat_Int] at e1 e2
      rw [cnd_true, e1, bnd_some', cnd_false, e2, bnd_some', bnd_some']
      unfold f45_r2 f45_j1
      rw [cnd_true, e2, bnd_some', cnd_true, hr', bnd_some']
      rfl
  conv => lhs; unfold iter
  rw [key]
/-! ### spines -/
def FSp (m : Nat) (K : Rec28) (T : List Nat) (p : S24) (d : Int) (c : Nat) : Prop := ∀ (l : List Nat) (i : Nat) (rest : List Nat), Cut l i (T ++ rest) → ∃ a0 i0 k, k ≤ c ∧ K.r74 (st l i) d = some ((a0, true), st l i0) ∧
  ∀ M, iter (B67 m K) (M + k) (lp true l i0 a0) = iter (B67 m K) M (lp true l (i + T.length) p)
def BSp (m : Nat) (K : Rec28) (T : List Nat) (p : S24) (d : Int) (c : Nat) : Prop := ∀ (l : List Nat) (i : Nat) (rest : List Nat), StopS rest → Cut l i (T ++ rest) → ∃ a0 i0 k, k ≤ c ∧ K.r61 (st l i) d = some ((a0, true), st l i0) ∧
  ∀ M, iter (B45 m K d) (M + k) (lp true l i0 a0) = iter (B45 m K d) M (lp true l (i + T.length) p)
theorem FSp.of {m : Nat} {K : Rec28} {T : List Nat} {p : S24} {d : Int} (h : PP K.r74 Any T p d) : FSp m K T p d 0 := fun l i rest hc => ⟨p, _, 0, Nat.le_refl _, h l i rest trivial hc, fun M => rfl⟩
theorem BSp.of {m : Nat} {K : Rec28} {T : List Nat} {p : S24} {d : Int} (h : PP K.r61 StopS T p d) : BSp m K T p d 0 := fun l i rest hs hc => ⟨p, _, 0, Nat.le_refl _, h l i rest hs hc, fun M => rfl⟩
theorem FSp.pp {m : Nat} {K : Rec28} {T : List Nat} {p : S24} {d : Int} {c : Nat} (h : FSp m K T p d c) (hm : c + 1 ≤ m) : PP (b67 m K) NoOp T p d := by
  intro l i rest hn hc
  obtain ⟨a0, i0, k, hk, h1, h2⟩ := h l i rest hc
  obtain ⟨M, rfl⟩ : ∃ M, m = M + 1 + k := ⟨m - 1 - k, by omega⟩
  unfold b67
  rw [h1, bnd_some']
  have := (h2 (M + 1)).trans (b67_end _ K hc.app hn p M)
  have : iter (fun (y : Bool × (List Int) × Int × Int × (List Int) × (List P24) × Int × Int) => f67_B7 (M + 1 + k) K y.1 y.2.1 y.2.2.1 y.2.2.2.1 y.2.2.2.2.1 y.2.2.2.2.2.1 y.2.2.2.2.2.2.1 y.2.2.2.2.2.2.2) (M + 1 + k) (true, castL l, (i0 : Int), a0.fKind, a0.fLabels, a0.fSubs, a0.fLeast, a0.fMost) = some (.inr (lp true l (i + T.length) p)) := this
  show brk (iter _ (M + 1 + k) (true, castL l, (i0 : Int), a0.fKind, a0.fLabels, a0.fSubs, a0.fLeast, a0.fMost)) _ _ = _
  rw [this]
  rfl
theorem BSp.pp {m : Nat} {K : Rec28} {T : List Nat} {p : S24} {d : Int} {c : Nat} (h : BSp m K T p d c) (hm : c + 1 ≤ m) : PP (b45 m K) StopB T p d := by
  intro l i rest hn hc
  obtain ⟨a0, i0, k, hk, h1, h2⟩ := h l i rest (fun x hx => by have := hn x hx; omega) hc
  obtain ⟨M, rfl⟩ : ∃ M, m = M + 1 + k := ⟨m - 1 - k, by omega⟩
  unfold b45
  rw [h1, bnd_some']
  have := (h2 (M + 1)).trans (b45_end _ K d hc.app hn p M)
  have : iter (fun (y : Bool × (List Int) × Int × Int × (List Int) × (List P24) × Int × Int) => f45_B3 (M + 1 + k) K d y.1 y.2.1 y.2.2.1 y.2.2.2.1 y.2.2.2.2.1 y.2.2.2.2.2.1 y.2.2.2.2.2.2.1 y.2.2.2.2.2.2.2) (M + 1 + k) (true, castL l, (i0 : Int), a0.fKind, a0.fLabels, a0.fSubs, a0.fLeast, a0.fMost) = some (.inr (lp true l (i + T.length) p)) := this
  show brk (iter _ (M + 1 + k) (true, castL l, (i0 : Int), a0.fKind, a0.fLabels, a0.fSubs, a0.fLeast, a0.fMost)) _ _ = _
  rw [this]
  rfl
end Go.Abs
