/-
  PATTERNS, the plain laws: atoms.
-/
import Derived.Test.YtipdmkcbneglpaaDoorPI
namespace Go.Abs
open Go.Sort Go.Proofs
set_option linter.unusedVariables false
set_option maxRecDepth 100000

theorem atom_paren {m : Nat} {K : Rec28} {d : Int} {T : List Nat} {p : S24} (hd : 0 ≤ d ∧ d ≤ 80) (h : PP K.r28 StopE T p (d + 1)) (hf : First T) : PP (b74 m K) Any (40 :: (T ++ [41])) p d := by
  intro l i rest _ hc
  have hc : Cut l i (40 :: (T ++ (41 :: rest))) := by simpa using hc
  have hn := hc.next
  obtain ⟨x, t, hx, hx2⟩ := hf
  have h41 : x ≠ 41 := by intro e; subst e; cases hx2
  have hn' : Cut l (i + 1) (x :: (t ++ (41 :: rest))) := by rw [hx] at hn; exact hn
  have e1 := is_yes m hc
  have e2 := is_no m hn' 41 h41
  have hp := h l (i + 1) (41 :: rest) (fun y hy => by
    have : 41 = y := by simpa using hy
    exact this.symm) hn
  have he := hn.app
  have e3 := is_yes m he
  simp only [Int.cast_ofNat_Int] at e1 e2 e3
  have e1 : f46 m (st l i) 40 = some true := e1
  unfold b74
  rw [e1, bnd_some', cnd_true, decide_eq_false (by omega), cnd_false]
  show (bnd (f46 m (⟨castL l, w64 ((i : Int) + 1)⟩ : S58) 41) fun v2 => cnd v2 _ (bnd (K.r28 (⟨castL l, w64 ((i : Int) + 1)⟩ : S58) (w64 (d + 1))) _)) = _
  have hp : K.r28 (⟨castL l, ((i + 1 : Nat) : Int)⟩ : S58) (d + 1) = some ((p, true), st l (i + 1 + T.length)) := hp
  rw [hc.w, e2, bnd_some', cnd_false, w64_id ⟨by omega, by omega⟩, hp, bnd_some']
  have e3 : f46 m (st l (i + 1 + T.length)) 41 = some true := e3
  show (bnd (cnd (!true) (some true) (bnd (f46 m (st l (i + 1 + T.length)) 41) fun v12 => some (!v12))) _) = _
  rw [e3]
  show some (((p, true), (⟨castL l, w64 (((i + 1 + T.length : Nat) : Int) + 1)⟩ : S58))) = _
  rw [he.w]
  simp only [List.length_cons, List.length_append, List.length_nil]
  show some ((p, true), st l (i + 1 + T.length + 1)) = some ((p, true), st l (i + (T.length + (0 + 1) + 1)))
  congr 3
  omega
theorem atom_empty (m : Nat) (K : Rec28) (d : Int) (hd : 0 ≤ d ∧ d ≤ 80) : PP (b74 m K) Any [40, 41] (⟨1, [], [], 0, 0⟩ : S24) d := by
  intro l i rest _ hc
  have hc : Cut l i (40 :: 41 :: rest) := hc
  have hn := hc.next
  have e1 := is_yes m hc
  have e2 := is_yes m hn
  simp only [Int.cast_ofNat_Int] at e1 e2
  have e1 : f46 m (st l i) 40 = some true := e1
  unfold b74
  rw [e1, bnd_some', cnd_true, decide_eq_false (by omega), cnd_false]
  show (bnd (f46 m (⟨castL l, w64 ((i : Int) + 1)⟩ : S58) 41) fun v2 => cnd v2 (some ((((⟨1, [], [], 0, 0⟩ : S24), true), (⟨castL l, w64 (w64 ((i : Int) + 1) + 1)⟩ : S58)))) _) = _
  rw [hc.w, e2, bnd_some', cnd_true, hn.w]
  rfl
theorem signs_head (p : Nat) : ∃ x t, signs p = x :: t ∧ x ≠ 40 ∧ x ≠ 91 ∧ x ≠ 93 ∧ stopL.contains x = false := by
  unfold signs
  by_cases h : specL.contains p = true
  · rw [if_pos h]
    exact ⟨92, [p], rfl, by decide, by decide, by decide, rfl⟩
  · rw [if_neg h]
    refine ⟨p, [], rfl, ?_⟩
    have h' : specL.contains p = false := by simpa using h
    simp only [specL, stopL, List.contains_eq_any_beq, List.any_cons, List.any_nil, Bool.or_false, Bool.or_eq_false_iff, beq_eq_false_iff_ne, ne_eq] at h' ⊢
    omega
theorem atom_one (m : Nat) (K : Rec28) (d : Int) (p : Nat) (hp : 1 ≤ p) : PP (b74 m K) Any (signs p) (⟨2, [(p : Int)], [], 0, 0⟩ : S24) d := by
  intro l i rest _ hc
  obtain ⟨x, t, hx, h40, h91, _, _⟩ := signs_head p
  have hc' : Cut l i (x :: (t ++ rest)) := by rw [hx] at hc; exact hc
  have e1 := is_no m hc' 40 h40
  have e2 := is_no m hc' 91 h91
  simp only [Int.cast_ofNat_Int] at e1 e2
  have e1 : f46 m (st l i) 40 = some false := e1
  have e2 : f46 m (st l i) 91 = some false := e2
  unfold b74
  rw [e1, bnd_some', cnd_false, e2, bnd_some', cnd_false, letter_eq m hc hp]
  rfl
theorem set_loop (m : Nat) (K : Rec28) : ∀ (ls : List Nat) (M i : Nat) (acc : List Int) (l rest : List Nat), (∀ p ∈ ls, 1 ≤ p) → Cut l i (ls.flatMap signs ++ (93 :: rest)) → acc.length + ls.length ≤ 100000 → ls.length < M →
    iter (fun (y : (List Int) × (List Int) × Int) => f74_B2 m K y.1 y.2.1 y.2.2) M (acc, castL l, (i : Int)) = some (.inr (acc ++ castL ls, castL l, ((i + (ls.flatMap signs).length : Nat) : Int)))
  | _, 0, _, _, _, _, _, _, _, h => by cases h
  | [], M + 1, i, acc, l, rest, hp, hc, hl, hM => by
    have hc : Cut l i (93 :: rest) := hc
    have e := is_yes m hc
    simp only [Int.cast_ofNat_Int] at e
    have hB : f74_B2 m K acc (castL l) (i : Int) = some (.brk (acc, castL l, (i : Int))) := by
      unfold f74_B2
      rw [e, bnd_some']
      rfl
    conv => lhs; unfold iter
    dsimp only
    rw [hB]
    simp [castL]
  | p :: ls, M + 1, i, acc, l, rest, hp, hc, hl, hM => by
    simp only [List.length_cons] at hl hM
    have hc : Cut l i (signs p ++ (ls.flatMap signs ++ (93 :: rest))) := by simpa using hc
    obtain ⟨x, t, hx, _, _, h93, _⟩ := signs_head p
    have hc' : Cut l i (x :: (t ++ (ls.flatMap signs ++ (93 :: rest)))) := by rw [hx] at hc; exact hc
    have e := is_no m hc' 93 h93
    simp only [Int.cast_ofNat_Int] at e
    have hlet := letter_eq m hc (hp p List.mem_cons_self)
    have hlet : f81 m (⟨castL l, (i : Int)⟩ : S58) = some (((p : Int), true), st l (i + (signs p).length)) := hlet
    have hB : f74_B2 m K acc (castL l) (i : Int) = some (.nxt (acc ++ [(p : Int)], castL l, ((i + (signs p).length : Nat) : Int))) := by
      unfold f74_B2
      rw [e, bnd_some', Bool.not_false, cnd_true, hlet, bnd_some']
      show (bnd (app 8 acc [(p : Int)]) fun v37 => _) = _
      rw [app_some 8 acc [(p : Int)] (by simp; omega) (by simp; omega), bnd_some']
      rfl
    have ih := set_loop m K ls M (i + (signs p).length) (acc ++ [(p : Int)]) l rest (fun q hq => hp q (List.mem_cons_of_mem _ hq)) hc.app (by simp; omega) (by omega)
    conv => lhs; unfold iter
    dsimp only
    rw [hB]
    refine ih.trans ?_
    simp [castL, Nat.add_assoc]
theorem sortI_id {l : List Int} (h : l.Pairwise (· < ·)) : sortI l = l := by
  unfold sortI
  refine List.mergeSort_of_pairwise (h.imp fun hab => ?_)
  have := hab
  simp only [decide_eq_true_eq]
  omega
theorem compactI_id {l : List Int} (h : l.Pairwise (· < ·)) : compactI l = l := by
  unfold compactI
  refine Lib.compact_all l fun j hj => ?_
  unfold Lib.keeps
  refine decide_eq_true ?_
  by_cases h0 : j = 0
  · exact .inl h0
  · refine .inr ?_
    have h1 : (l.toArray)[j]! = l[j] := by simp [hj]
    have h2 : (l.toArray)[j - 1]! = l[j - 1] := by
      have : j - 1 < l.length := by omega
      simp [this]
    rw [h1, h2]
    have := (List.pairwise_iff_getElem.1 h) (j - 1) j (by omega) hj (by omega)
    omega
theorem atom_set (m : Nat) (K : Rec28) (d : Int) (ls : List Nat) (h1 : ls ≠ []) (hp : ∀ p ∈ ls, 1 ≤ p) (hs : (castL ls).Pairwise (· < ·)) (hl : ls.length ≤ 300) (hm : 1000 ≤ m) : PP (b74 m K) Any (91 :: (ls.flatMap signs ++ [93])) (⟨2, castL ls, [], 0, 0⟩ : S24) d := by
  intro l i rest _ hc
  have hc : Cut l i (91 :: (ls.flatMap signs ++ (93 :: rest))) := by simpa using hc
  have e1 := is_no m hc 40 (by decide)
  have e2 := is_yes m hc
  simp only [Int.cast_ofNat_Int] at e1 e2
  have e1 : f46 m (st l i) 40 = some false := e1
  have e2 : f46 m (st l i) 91 = some true := e2
  have hlp := set_loop m K ls m (i + 1) [] l rest hp hc.next (by simp; omega) (by omega)
  have hend := hc.next.app
  unfold b74
  rw [e1, bnd_some', cnd_false, e2, bnd_some', cnd_true]
  show brk (iter _ m ([], castL l, w64 ((i : Int) + 1))) _ _ = _
  rw [hc.w, hlp, brk_inr, List.nil_append]
  show cnd (((castL ls).length : Int) == 0) _ _ = _
  have hpos := List.length_pos_iff.2 h1
  rw [castL_len, show ((ls.length : Int) == 0) = false from beq_eq_false_iff_ne.2 (by omega), cnd_false]
  show (bnd (srtI (castL ls)) fun v41 => some ((((⟨2, (compactI v41), [], 0, 0⟩ : S24), true), (⟨castL l, w64 (((i + 1 + (ls.flatMap signs).length : Nat) : Int) + 1)⟩ : S58)))) = _
  unfold srtI
  rw [if_pos (by rw [castL_len]; omega), bnd_some', sortI_id hs, compactI_id hs, hend.w]
  simp only [List.length_cons, List.length_append, List.length_nil]
  show some ((_, true), st l (i + 1 + (ls.flatMap signs).length + 1)) = some ((_, true), st l (i + ((ls.flatMap signs).length + (0 + 1) + 1)))
  congr 3
  omega
end Go.Abs
