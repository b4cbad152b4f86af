/-
  PATTERNS, the plain laws: what stands side by side, choices, and what stands alone.
-/
import Derived.Test.YtipdmkcbneglpaaDoorPH
namespace Go.Abs
open Go.Sort Go.Proofs
set_option linter.unusedVariables false
set_option maxRecDepth 100000

theorem ix_stop : ∀ p : Nat, p < 128 → decide (Lib.indexByte (⟨#[41, 93, 124, 38, 45, 42, 43, 63, 123, 125, 44]⟩ : ByteArray).data.toList (IntKind.u8.wrap (p : Int)).toNat.toUInt8 ≥ 0) = stopL.contains p := by decide +kernel
theorem stop_big (p : Nat) (h : ¬ p < 128) : stopL.contains p = false := by
  simp only [stopL, List.contains_eq_any_beq, List.any_cons, List.any_nil, Bool.or_false, Bool.or_eq_false_iff, beq_eq_false_iff_ne, ne_eq]
  omega
theorem First.noop {t : List Nat} (h : First t) (r : List Nat) : NoOp (t ++ r) := by
  obtain ⟨x, t, rfl, hx⟩ := h
  intro y hy
  have : x = y := by simpa using hy
  subst this
  simp only [stopL, List.contains_eq_any_beq, List.any_cons, List.any_nil, Bool.or_false, Bool.or_eq_false_iff, beq_eq_false_iff_ne, ne_eq] at hx
  omega
theorem StopS.noop {t : List Nat} (h : StopS t) : NoOp t := fun x hx => by have := h x hx; omega
theorem First.append {t : List Nat} (h : First t) (r : List Nat) : First (t ++ r) := by
  obtain ⟨x, t, rfl, hx⟩ := h
  exact ⟨x, t ++ r, rfl, hx⟩
def goB : List Nat → Bool
  | [] => false
  | x :: _ => !stopL.contains x
/-- may a factor begin here? -/
theorem seq_go (m : Nat) (K : Rec28) (d : Int) (acc : List P24) {l : List Nat} {i : Nat} {t : List Nat} (h : Cut l i t) : f61_B2 m K d acc (castL l) (i : Int) = f61_r1 m K d acc (castL l) (i : Int) (goB t) := by
  unfold f61_B2
  rw [castL_len]
  cases t with
  | nil =>
    rw [decide_eq_false (by have := h.nil; omega), cnd_false, bnd_some']
    rfl
  | cons x r =>
    rw [decide_eq_true (by have := h.lt; omega), cnd_true, h.idx, bnd_some', bnd_some']
    show _ = f61_r1 m K d acc (castL l) (i : Int) (!stopL.contains x)
    by_cases hb : x < 128
    · rw [decide_eq_true (by omega : (x : Int) < 128), cnd_true]
      unfold f56
      rw [bnd_some', ix_stop x hb, bnd_some']
    · rw [decide_eq_false (by omega : ¬ (x : Int) < 128), cnd_false, bnd_some', stop_big x hb]
theorem seq_loop (m : Nat) (K : Rec28) (d : Int) (τ : P24 → List Nat) : ∀ (qs : List P24) (M i : Nat) (acc : List P24) (l rest : List Nat), (∀ q ∈ qs, PP K.r67 NoOp (τ q) q.vw d ∧ First (τ q)) → StopS rest → Cut l i (qs.flatMap τ ++ rest) →
    acc.length + qs.length ≤ 100000 → qs.length < M → iter (fun (y : (List P24) × (List Int) × Int) => f61_B2 m K d y.1 y.2.1 y.2.2) M (acc, castL l, (i : Int)) = some (.inr (acc ++ qs, castL l, ((i + (qs.flatMap τ).length : Nat) : Int)))
  | [], 0, _, _, _, _, _, _, _, _, h => by cases h
  | [], M + 1, i, acc, l, rest, hq, hs, hc, hl, hM => by
    unfold iter
    dsimp only
    rw [seq_go m K d acc hc]
    have : goB (([] : List P24).flatMap τ ++ rest) = false := by
      simp only [List.flatMap_nil, List.nil_append]
      cases rest with
      | nil => rfl
      | cons x r =>
        have := hs x rfl
        rcases this with rfl | rfl | rfl | rfl <;> rfl
    rw [this]
    unfold f61_r1
    rw [cnd_false]
    simp
  | q :: qs, 0, _, _, _, _, _, _, _, _, h => by cases h
  | q :: qs, M + 1, i, acc, l, rest, hq, hs, hc, hl, hM => by
    simp only [List.length_cons] at hl hM
    rw [List.flatMap_cons, List.append_assoc] at hc
    obtain ⟨h1, h2⟩ := hq q List.mem_cons_self
    have hno : NoOp (qs.flatMap τ ++ rest) := by
      cases qs with
      | nil => exact hs.noop
      | cons q' qs' =>
        rw [List.flatMap_cons, List.append_assoc]
        exact (hq q' (List.mem_cons_of_mem _ List.mem_cons_self)).2.noop _
    have hp := h1 l i _ hno hc
    have hB : f61_B2 m K d acc (castL l) (i : Int) = some (.nxt (acc ++ [q], castL l, ((i + (τ q).length : Nat) : Int))) := by
      rw [seq_go m K d acc hc]
      obtain ⟨x, t, hx, hx2⟩ := h2
      have : goB (τ q ++ (qs.flatMap τ ++ rest)) = true := by
        rw [hx]
        show (!stopL.contains x) = true
        rw [hx2]; rfl
      rw [this]
      unfold f61_r1
      rw [cnd_true]
      have hp : K.r67 (⟨castL l, (i : Int)⟩ : S58) d = some ((q.vw, true), st l (i + (τ q).length)) := hp
      rw [hp, bnd_some']
      show (bnd (app 72 acc [P24.con q.vw]) fun v127 => _) = _
      rw [P24.con_vw, app_some 72 acc [q] (by simp; omega) (by simp; omega), bnd_some']
      rfl
    have ih := seq_loop m K d τ qs M (i + (τ q).length) (acc ++ [q]) l rest (fun q hq' => hq q (List.mem_cons_of_mem _ hq')) hs hc.app (by simp; omega) (by omega)
    conv => lhs; unfold iter
    dsimp only
    rw [hB]
    refine ih.trans ?_
    simp [Nat.add_assoc]
theorem seq_pp (m : Nat) (K : Rec28) (d : Int) (τ : P24 → List Nat) (qs : List P24) (hq : ∀ q ∈ qs, PP K.r67 NoOp (τ q) q.vw d ∧ First (τ q)) (h1 : qs.length ≠ 0) (h2 : qs.length ≤ 100000) (hm : qs.length < m) :
    PP (b61 m K) StopS (qs.flatMap τ) (if qs.length = 1 then (qs.head?.map P24.vw).getD (⟨0, [], [], 0, 0⟩ : S24) else (⟨3, [], qs, 0, 0⟩ : S24)) d := by
  intro l i rest hs hc
  unfold b61
  have h := seq_loop m K d τ qs m i [] l rest hq hs hc (by simp; omega) hm
  show brk (iter _ m ([], castL l, (i : Int))) _ _ = _
  rw [h, brk_inr, List.nil_append]
  show cnd ((qs.length : Int) == 0) _ _ = _
  rw [show ((qs.length : Int) == 0) = false from beq_eq_false_iff_ne.2 (by omega), cnd_false]
  by_cases one : qs.length = 1
  · rw [show ((qs.length : Int) == 1) = true by simp [one], cnd_true, if_pos one]
    obtain ⟨q, rfl⟩ := List.length_eq_one_iff.1 one
    rfl
  · rw [show ((qs.length : Int) == 1) = false from beq_eq_false_iff_ne.2 (by omega), cnd_false, if_neg one]
    rfl
theorem lift_seq {m : Nat} {K : Rec28} {d : Int} {T : List Nat} {p : S24} (h : PP K.r67 NoOp T p d) (hf : First T) (hm : 1 < m) : PP (b61 m K) StopS T p d := by
  have := seq_pp m K d (fun _ => T) [P24.con p] (fun q hq => by
    have : q = P24.con p := by simpa using hq
    subst this
    rw [P24.vw_con]
    exact ⟨h, hf⟩) (by simp) (by simp) (by simpa using hm)
  simpa [P24.vw_con] using this
/-! ### choices -/
theorem alt_loop (m : Nat) (K : Rec28) (d : Int) (τ : P24 → List Nat) : ∀ (qs : List P24) (q : P24) (M i : Nat) (acc : List P24) (l rest : List Nat), (∀ x ∈ q :: qs, PP K.r45 StopB (τ x) x.vw d) → StopE rest → Cut l i (τ q ++ (qs.flatMap (fun y => 124 :: τ y) ++ rest)) →
    acc.length + qs.length + 1 ≤ 100000 → qs.length < M → iter (fun (y : (List P24) × (List Int) × Int) => f28_B1 m K d y.1 y.2.1 y.2.2) M (acc, castL l, (i : Int)) = some (.inr (acc ++ q :: qs, castL l, ((i + (τ q ++ qs.flatMap (fun y => 124 :: τ y)).length : Nat) : Int)))
  | _, _, 0, _, _, _, _, _, _, _, _, h => by cases h
  | [], q, M + 1, i, acc, l, rest, hq, hs, hc, hl, hM => by
    have hc : Cut l i (τ q ++ rest) := hc
    have hp := hq q List.mem_cons_self l i rest (fun x hx => .inl (hs x hx)) hc
    have hp : K.r45 (⟨castL l, (i : Int)⟩ : S58) d = some ((q.vw, true), st l (i + (τ q).length)) := hp
    have e := is_eq m hc.app 124
    have e2 : (rest.head? == some 124) = false := by
      cases hr : rest.head? with
      | none => rfl
      | some x => have := hs x hr; subst this; rfl
    rw [e2] at e
    simp only [Int.cast_ofNat_Int] at e
    simp only [List.length_nil] at hl
    have hB : f28_B1 m K d acc (castL l) (i : Int) = some (.brk (acc ++ [q], castL l, ((i + (τ q).length : Nat) : Int))) := by
      unfold f28_B1
      rw [hp, bnd_some']
      show (bnd (app 72 acc [P24.con q.vw]) fun v23 => bnd (f46 m (st l (i + (τ q).length)) 124) fun v24 => _) = _
      rw [P24.con_vw, app_some 72 acc [q] (by simp; omega) (by simp; omega), bnd_some', e, bnd_some']
      rfl
    conv => lhs; unfold iter
    dsimp only
    rw [hB]
    simp
  | q' :: qs, q, M + 1, i, acc, l, rest, hq, hs, hc, hl, hM => by
    simp only [List.length_cons] at hl hM
    have hc0 : Cut l i (τ q ++ (124 :: (τ q' ++ (qs.flatMap (fun y => 124 :: τ y) ++ rest)))) := by simpa using hc
    have hp := hq q List.mem_cons_self l i _ (fun x hx => by have : 124 = x := by simpa using hx
                                                             exact .inr this.symm) hc0
    have hp : K.r45 (⟨castL l, (i : Int)⟩ : S58) d = some ((q.vw, true), st l (i + (τ q).length)) := hp
    have hn := hc0.app
    have e := is_yes m hn
    simp only [Int.cast_ofNat_Int] at e
    have e : f46 m (st l (i + (τ q).length)) 124 = some true := e
    have hB : f28_B1 m K d acc (castL l) (i : Int) = some (.nxt (acc ++ [q], castL l, ((i + (τ q).length + 1 : Nat) : Int))) := by
      unfold f28_B1
      rw [hp, bnd_some']
      show (bnd (app 72 acc [P24.con q.vw]) fun v23 => bnd (f46 m (st l (i + (τ q).length)) 124) fun v24 => _) = _
      rw [P24.con_vw, app_some 72 acc [q] (by simp; omega) (by simp; omega), bnd_some', e, bnd_some']
      show some (Stp.nxt (acc ++ [q], castL l, w64 (((i + (τ q).length : Nat) : Int) + 1))) = _
      rw [hn.w]
    have ih := alt_loop m K d τ qs q' M (i + (τ q).length + 1) (acc ++ [q]) l rest (fun x hx => hq x (List.mem_cons_of_mem _ hx)) hs hn.next (by simp; omega) (by omega)
    conv => lhs; unfold iter
    dsimp only
    rw [hB]
    refine ih.trans ?_
    simp only [List.append_assoc, List.singleton_append, List.flatMap_cons, List.length_append, List.length_cons, List.cons_append]
    congr 4
    omega
theorem alt_pp (m : Nat) (K : Rec28) (d : Int) (τ : P24 → List Nat) (q : P24) (qs : List P24) (hq : ∀ x ∈ q :: qs, PP K.r45 StopB (τ x) x.vw d) (h2 : qs.length + 1 ≤ 100000) (hm : qs.length < m) :
    PP (b28 m K) StopE (τ q ++ qs.flatMap (fun y => 124 :: τ y)) (if qs.length = 0 then q.vw else (⟨4, [], q :: qs, 0, 0⟩ : S24)) d := by
  intro l i rest hs hc
  unfold b28
  have h := alt_loop m K d τ qs q m i [] l rest hq hs (by simpa using hc) (by simp; omega) hm
  show brk (iter _ m ([], castL l, (i : Int))) _ _ = _
  rw [h, brk_inr, List.nil_append]
  show cnd (((q :: qs).length : Int) == 1) _ _ = _
  by_cases one : qs.length = 0
  · have : qs = [] := List.eq_nil_of_length_eq_zero one
    subst this
    rfl
  · rw [show (((q :: qs).length : Int) == 1) = false from beq_eq_false_iff_ne.2 (by simp only [List.length_cons]; omega), cnd_false, if_neg one]
    rfl
theorem lift_alt {m : Nat} {K : Rec28} {d : Int} {T : List Nat} {p : S24} (h : PP K.r45 StopB T p d) (hm : 1 < m) : PP (b28 m K) StopE T p d := by
  have := alt_pp m K d (fun _ => T) (P24.con p) [] (fun x hx => by
    have : x = P24.con p := by simpa using hx
    subst this
    rw [P24.vw_con]
    exact h) (by simp) (by simp; omega)
  simpa [P24.vw_con] using this
end Go.Abs
