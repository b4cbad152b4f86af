import Derived.Test.YthiikobbfpfbkaaDoorQY
namespace Go.Abs
open Go.Sort Go.Proofs
set_option linter.unusedVariables false
set_option maxRecDepth 100000
theorem Sh.inv5 {n : Nat} {x : List S81} {ps : List P24} (h : Sh n x ps) : n = 5 → ∃ (y : List S81) (p : P24) (ops : List (List S81 × P24)), Sh 4 y [p] ∧ (∀ o ∈ ops, Sh 4 o.1 [o.2]) ∧ x = y ++ ops.flatMap (fun o => sg 124 :: o.1) ∧ ps = p :: ops.map (·.2) := by
 induction h with
 | alt1 h _ => intro _; exact ⟨_, _, [], h, (fun o ho => by cases ho), by simp, rfl⟩
 | @alts e0 e' ps0 p' h h' ih _ =>
  intro _
  obtain ⟨y, p, ops, h1, h2, rfl, rfl⟩ := ih rfl
  refine ⟨y, p, ops ++ [(e', p')], h1, fun o ho => ?_, by simp, by simp⟩
  rcases List.mem_append.1 ho with ho | ho
  ·exact h2 o ho
  ·rw [List.mem_singleton.1 ho]; exact h'
 | _ => intro hn; cases hn
def opK (six : Bool) : Nat := if six then 38 else 45
def foldO (p : P24) (ops : List (Bool × List S81 × P24)) : P24 := ops.foldl (fun a o => P24.con (⟨if o.1 then 6 else 7, [], [a, o.2.2], 0, 0⟩ : S24)) p
theorem Sh.inv4 {n : Nat} {x : List S81} {ps : List P24} (h : Sh n x ps) : n = 4 → ∃ (y : List S81) (p : P24) (ops : List (Bool × List S81 × P24)), Sh 3 y [p] ∧ (∀ o ∈ ops, Sh 3 o.2.1 [o.2.2]) ∧ x = y ++ ops.flatMap (fun o => sg (opK o.1) :: o.2.1) ∧ ps = [foldO p ops] := by
 induction h with
 | one h _ => intro _; exact ⟨_, _, [], h, (fun o ho => by cases ho), by simp, rfl⟩
 | @both e0 e' p0 q' six h h' ih _ =>
  intro _
  obtain ⟨y, p, ops, h1, h2, rfl, hps⟩ := ih rfl
  refine ⟨y, p, ops ++ [(six, e', q')], h1, fun o ho => ?_, by simp [opK], ?_⟩
  ·rcases List.mem_append.1 ho with ho | ho
   ·exact h2 o ho
   ·rw [List.mem_singleton.1 ho]; exact h'
  ·have hps := (List.cons.inj hps).1
   rw [hps]
   simp [foldO]
 | _ => intro hn; cases hn
theorem Sh.inv2 {n : Nat} {x : List S81} {ps : List P24} (h : Sh n x ps) : n = 2 → ∃ (fs : List (List S81 × P24)), (∀ o ∈ fs, Sh 1 o.1 [o.2]) ∧ x = fs.flatMap (·.1) ∧ ps = fs.map (·.2) := by
 induction h with
 | @row1 e p h _ =>
  intro _
  exact ⟨[(e, p)], fun o ho => by rw [List.mem_singleton.1 ho]; exact h, by simp, rfl⟩
 | @rows e0 e' ps0 p' h h' ih _ =>
  intro _
  obtain ⟨fs, h1, rfl, rfl⟩ := ih rfl
  refine ⟨fs ++ [(e', p')], fun o ho => ?_, by simp, by simp⟩
  rcases List.mem_append.1 ho with ho | ho
  ·exact h1 o ho
  ·rw [List.mem_singleton.1 ho]; exact h'
 | _ => intro hn; cases hn
def stE (i : Nat) (p : S24) : Int × Int × (List Int) × (List P24) × Int × Int := ((i : Int), p.fKind, p.fLabels, p.fSubs, p.fLeast, p.fMost)
noncomputable def B12e (m : Nat) (K : Rec31) (e : List S81) : Int × Int × (List Int) × (List P24) × Int × Int → Option (Stp S24 (Int × Int × (List Int) × (List P24) × Int × Int)) := fun y => f31_B12 m K e y.1 y.2.1 y.2.2.1 y.2.2.2.1 y.2.2.2.2.1 y.2.2.2.2.2
theorem b12_end (m : Nat) (K : Rec31) {e : List S81} {i : Nat} {t : List S81} (h : At e (i + 1) t) (ht : ∀ x r, t = x :: r → x.fSign = false ∨ x.fPoint = 40 ∨ x.fPoint = 91) (p : S24) (M : Nat) : iter (B12e m K e) (M + 1) (stE i p) = some (.inr (stE i p)) := by
 have hw : w64 ((i : Int) + 1) = ((i + 1 : Nat) : Int) := by have := h.2.1; have := h.2.2; rw [w64_id ⟨by omega, by omega⟩]; omega
 have hB : B12e m K e (stE i p) = some (.brk (stE i p)) := by
  show f31_B12 m K e (i : Int) p.fKind p.fLabels p.fSubs p.fLeast p.fMost = _
  unfold f31_B12
  rw [hw]
  have hbrk : f31_r9 m K e (i : Int) p.fKind p.fLabels p.fSubs p.fLeast p.fMost false = some (.brk (stE i p)) := rfl
  cases t with
  | nil =>
   rw [decide_eq_false (by have := h.len; simp at this; omega), cnd_false, bnd_some']
   unfold f31_r11
   rw [cnd_false, bnd_some']
   unfold f31_r10
   rw [cnd_false, bnd_some', hbrk]
  | cons x r =>
   rw [decide_eq_true (by have := h.lt; omega), cnd_true, h.idx, bnd_some', bnd_some']
   have hx := ht x r rfl
   obtain ⟨c, s⟩ := x
   unfold f31_r11
   cases s with
   | false =>
    show (bnd (cnd false _ _) _) = _
    rw [cnd_false, bnd_some']
    unfold f31_r10
    rw [cnd_false, bnd_some', hbrk]
   | true =>
    show (bnd (cnd true _ _) _) = _
    rw [cnd_true, hw, h.idx, bnd_some', bnd_some']
    unfold f31_r10
    by_cases h40 : c = 40
    ·rw [show (c != 40) = false by simpa using h40, cnd_false, bnd_some', hbrk]
    ·have h91 : c = 91 := by
      rcases hx with hx | hx | hx
      ·cases hx
      ·exact absurd hx h40
      ·exact hx
     rw [show (c != 40) = true by simpa using h40, cnd_true, hw, h.idx, bnd_some', bnd_some', show (c != 91) = false by simpa using h91, hbrk]
 unfold iter
 rw [hB]
theorem b12_in (m : Nat) (K : Rec31) {e : List S81} {i c : Nat} {r : List S81} (h : At e (i + 1) (sg c :: r)) (hc : c ≠ 40 ∧ c ≠ 91) (p : S24) : B12e m K e (stE i p) = f31_r9 m K e (i : Int) p.fKind p.fLabels p.fSubs p.fLeast p.fMost true := by
 have hw : w64 ((i : Int) + 1) = ((i + 1 : Nat) : Int) := by have := h.2.1; have := h.2.2; rw [w64_id ⟨by omega, by omega⟩]; omega
 show f31_B12 m K e (i : Int) p.fKind p.fLabels p.fSubs p.fLeast p.fMost = _
 unfold f31_B12
 rw [hw, decide_eq_true (by have := h.lt; omega), cnd_true, h.idx, bnd_some', bnd_some']
 unfold f31_r11
 show (bnd (cnd true _ _) _) = _
 rw [cnd_true, hw, h.idx, bnd_some', bnd_some']
 show f31_r10 m K e (i : Int) p.fKind p.fLabels p.fSubs p.fLeast p.fMost ((c : Int) != 40) = _
 rw [show ((c : Int) != 40) = true from (neN c 40).trans (decide_eq_true hc.1)]
 unfold f31_r10
 rw [cnd_true, hw, h.idx, bnd_some', bnd_some']
 show f31_r9 m K e (i : Int) p.fKind p.fLabels p.fSubs p.fLeast p.fMost ((c : Int) != 91) = _
 rw [show ((c : Int) != 91) = true from (neN c 91).trans (decide_eq_true hc.2)]
theorem b12_op (m : Nat) (K : Rec31) {e : List S81} {i : Nat} {o : List S81} {a b : Int} (ho : Op o a b) {r : List S81} (h : At e (i + 1) (o ++ r)) (p : S24) : B12e m K e (stE i p) = some (.nxt (stE (i + o.length) (⟨5, [], [P24.con p], a, b⟩ : S24))) := by
 have h5 := h.2.2
 have hl := h.len
 rw [List.length_append] at hl
 have hw : w64 ((i : Int) + 1) = ((i + 1 : Nat) : Int) := by rw [w64_id ⟨by omega, by omega⟩]; omega
 have w2 : w64 (((i + 1 : Nat) : Int) + 1) = ((i + 1 + 1 : Nat) : Int) := by rw [w64_id ⟨by omega, by omega⟩]; omega
 have w3 : w64 (((i + 1 : Nat) : Int) + 3) = ((i + 1 + 1 + 1 + 1 : Nat) : Int) := by rw [w64_id ⟨by omega, by omega⟩]; omega
 have w4 : w64 (((i + 1 + 1 + 1 + 1 : Nat) : Int) + 1) = ((i + 1 + 1 + 1 + 1 + 1 : Nat) : Int) := by rw [w64_id ⟨by omega, by omega⟩]; omega
 have hdig : ∀ a : Nat, a ≤ 9 → w64 ((sg (48 + a)).fPoint - 48) = (a : Int) := by
  intro a ha
  show w64 (((48 + a : Nat) : Int) - 48) = _
  rw [w64_id ⟨by omega, by omega⟩]; omega
 cases ho with
 | star =>
  have h : At e (i + 1) (sg 42 :: r) := h
  rw [b12_in m K h (by decide) p]
  unfold f31_r9
  rw [cnd_true, hw, h.idx, bnd_some']
  show some (Stp.nxt (((i + 1 : Nat) : Int), (5 : Int), ([] : List Int), [P24.con p], ((0 : Int)), ((-1 : Int)))) = _
  rfl
 | plus =>
  have h : At e (i + 1) (sg 43 :: r) := h
  rw [b12_in m K h (by decide) p]
  unfold f31_r9
  rw [cnd_true, hw, h.idx, bnd_some']
  show some (Stp.nxt (((i + 1 : Nat) : Int), (5 : Int), ([] : List Int), [P24.con p], ((1 : Int)), ((-1 : Int)))) = _
  rfl
 | opt =>
  have h : At e (i + 1) (sg 63 :: r) := h
  rw [b12_in m K h (by decide) p]
  unfold f31_r9
  rw [cnd_true, hw, h.idx, bnd_some']
  show some (Stp.nxt (((i + 1 : Nat) : Int), (5 : Int), ([] : List Int), [P24.con p], ((0 : Int)), ((1 : Int)))) = _
  rfl
 | least a ha =>
  have h : At e (i + 1) (sg 123 :: (sg (48 + a) :: (sg 44 :: (sg 125 :: r)))) := h
  rw [b12_in m K h (by decide) p]
  unfold f31_r9
  rw [cnd_true, hw, h.idx, bnd_some', w2, w3, h.next.idx, h.next.next.next.idx]
  show (bnd (some (sg (48 + a))) fun v624 => _) = _
  rw [bnd_some', bnd_some']
  show f31_j8 m K p.fKind p.fLabels p.fSubs p.fLeast p.fMost (sg (48 + a)) ((i + 1 + 1 + 1 + 1 : Nat) : Int) (-1) = _
  unfold f31_j8
  rw [hdig a ha]
  rfl
 | both a b ha hb =>
  have h : At e (i + 1) (sg 123 :: (sg (48 + a) :: (sg 44 :: (sg (48 + b) :: (sg 125 :: r))))) := h
  rw [b12_in m K h (by decide) p]
  unfold f31_r9
  rw [cnd_true, hw, h.idx, bnd_some', w2, w3, h.next.idx, h.next.next.next.idx]
  show (bnd (some (sg (48 + a))) fun v624 => _) = _
  rw [bnd_some', bnd_some']
  show cnd (((48 + b : Nat) : Int) != 125) _ _ = _
  rw [show (((48 + b : Nat) : Int) != 125) = true from (neN (48 + b) 125).trans (decide_eq_true (by omega)), cnd_true, bnd_some', hdig b hb, w4]
  show f31_j8 m K p.fKind p.fLabels p.fSubs p.fLeast p.fMost (sg (48 + a)) ((i + 1 + 1 + 1 + 1 + 1 : Nat) : Int) (b : Int) = _
  unfold f31_j8
  rw [hdig a ha]
  rfl
theorem Sh.inv1 (m : Nat) (K : Rec31) {n : Nat} {x : List S81} {ps : List P24} (h : Sh n x ps) : n = 1 → ∃ (p : P24) (y : List S81) (q : P24) (z : List S81), ps = [p] ∧ Sh 0 y [q] ∧ x = y ++ z ∧
  ∀ (e : List S81) (i : Nat) (rest : List S81), At e i (y ++ (z ++ rest)) → ∃ k, k ≤ z.length ∧ ∀ M, iter (B12e m K e) (M + k) (stE (i + y.length - 1) q.vw) = iter (B12e m K e) M (stE (i + x.length - 1) p.vw) := by
 induction h with
 | @fac e0 p h _ =>
  intro _
  exact ⟨p, e0, p, [], rfl, h, by simp, fun e i rest ha => ⟨0, Nat.le_refl _, fun M => rfl⟩⟩
 | @rep e0 o p0 a b h ho ih =>
  intro _
  obtain ⟨p, y, q, z, hps, h1, rfl, h2⟩ := ih rfl
  cases hps
  refine ⟨_, y, q, z ++ o, rfl, h1, by simp, fun e i rest ha => ?_⟩
  have ha : At e i (y ++ (z ++ (o ++ rest))) := by simpa using ha
  obtain ⟨k, hk, g⟩ := h2 e i (o ++ rest) ha
  have hyl : 0 < y.length := List.length_pos_iff.2 h1.ne.1
  have hb := b12_op m K (i := i + (y ++ z).length - 1) ho (r := rest) (by
   have := ha.app.app
   rw [show i + (y ++ z).length - 1 + 1 = i + y.length + z.length by rw [List.length_append]; omega]
   exact this) p0.vw
  rw [P24.con_vw] at hb
  have hol : 0 < o.length := List.length_pos_iff.2 ho.ne
  refine ⟨k + 1, by rw [List.length_append]; omega, fun M => ?_⟩
  rw [show M + (k + 1) = M + 1 + k by omega, g (M + 1), P24.vw_con]
  conv => lhs; unfold iter
  rw [hb]
  show iter (B12e m K e) M (stE (i + (y ++ z).length - 1 + o.length) _) = _
  rw [show i + (y ++ z).length - 1 + o.length = i + (y ++ z ++ o).length - 1 by simp only [List.length_append]; omega]
 | _ => intro hn; cases hn
theorem Sh.first {n : Nat} {x : List S81} {ps : List P24} (h : Sh n x ps) : ∃ z r, x = z :: r ∧ (z.fSign = false ∨ z.fPoint = 40 ∨ z.fPoint = 91) := by
 induction h with
 | chr c => exact ⟨_, _, rfl, .inl rfl⟩
 | emp => exact ⟨_, _, rfl, .inr (.inl rfl)⟩
 | set l _ => exact ⟨_, _, rfl, .inr (.inr rfl)⟩
 | par _ _ => exact ⟨_, _, rfl, .inr (.inl rfl)⟩
 | fac _ ih => exact ih
 | rep _ _ ih => obtain ⟨z, r, rfl, h⟩ := ih; exact ⟨z, _, rfl, h⟩
 | row1 _ ih => exact ih
 | rows _ _ ih _ => obtain ⟨z, r, rfl, h⟩ := ih; exact ⟨z, _, rfl, h⟩
 | seq _ ih => exact ih
 | one _ ih => exact ih
 | both _ _ _ ih _ => obtain ⟨z, r, rfl, h⟩ := ih; exact ⟨z, _, rfl, h⟩
 | alt1 _ ih => exact ih
 | alts _ _ ih _ => obtain ⟨z, r, rfl, h⟩ := ih; exact ⟨z, _, rfl, h⟩
 | ei _ ih => exact ih
noncomputable def B17e (m : Nat) (K : Rec31) (e : List S81) : (List P24) × Int → Option (Stp S24 ((List P24) × Int)) := fun y => f31_B17 m K e y.1 y.2
theorem lab_loop31 (m : Nat) (K : Rec31) (l : List Nat) (hm : 100000 ≤ m) (hl : l.length ≤ 5000) : iter (fun (y : Int × (List Int)) => f31_B15 m K (l.map pl) y.1 y.2) m (0, []) = some (.inr ((l.length : Int), (castL l).foldl (fun a x => insI x a) [])) := by
 have insL : ∀ (x : Int) (a : List Int), (insI x a).length ≤ a.length + 1 := by
  intro x a
  induction a with
  | nil => simp [insI]
  | cons y r ih =>
   unfold insI
   split
   ·simp; omega
   ·split <;> simp
 have go : ∀ (M i : Nat) (acc : List Int), i ≤ l.length → l.length < M + i → acc.length ≤ i → iter (fun (y : Int × (List Int)) => f31_B15 m K (l.map pl) y.1 y.2) M ((i : Int), acc) = some (.inr ((l.length : Int), ((castL l).drop i).foldl (fun a x => insI x a) acc)) := by
  intro M
  induction M with
  | zero => intro i acc h1 h2; omega
  | succ M ih =>
   intro i acc h1 h2 h3
   have hw : w64 ((i : Int) + 1) = ((i + 1 : Nat) : Int) := by rw [w64_id ⟨by omega, by omega⟩]; omega
   unfold iter
   dsimp only
   rcases Nat.lt_or_ge i l.length with hlt | hge
   ·have e1 : idx (l.map pl) (i : Int) = some (pl l[i]) := by simp [idx, List.getElem?_eq_getElem hlt]
    have hB : f31_B15 m K (l.map pl) (i : Int) acc = some (.nxt (((i + 1 : Nat) : Int), insI ((l[i] : Nat) : Int) acc)) := by
     unfold f31_B15
     rw [List.length_map, decide_eq_true (by omega), cnd_true, e1, bnd_some']
     show (bnd (f52 m acc [((l[i] : Nat) : Int)]) fun v669 => _) = _
     rw [f52_eq m acc _ (by omega) (by omega), bnd_some', hw]
    rw [hB]
    have e2 : (castL l).drop i = ((l[i] : Nat) : Int) :: (castL l).drop (i + 1) := by
     rw [List.drop_eq_getElem_cons (by rw [castL_len]; exact hlt)]
     simp [castL]
    rw [e2, List.foldl_cons]
    exact ih (i + 1) _ hlt (by omega) (by have := insL ((l[i] : Nat) : Int) acc; omega)
   ·have : i = l.length := by omega
    subst this
    have hB : f31_B15 m K (l.map pl) (l.length : Int) acc = some (.brk ((l.length : Int), acc)) := by
     unfold f31_B15
     rw [List.length_map, decide_eq_false (by omega), cnd_false]
    rw [hB, List.drop_eq_nil_of_le (by rw [castL_len]; exact Nat.le_refl _)]
    rfl
 have := go m 0 [] (Nat.zero_le _) (by omega) (Nat.zero_le _)
 rw [List.drop_zero] at this
 exact this
theorem factor31 (m : Nat) (hm : 100000 ≤ m) (K : Rec31) {x : List S81} {p : P24} (hx : Sh 1 x [p]) (hK : ∀ (y : List S81) (q : P24), y.length < x.length → Sh 6 y [q] → K.r31 y = some q.vw) {e : List S81} {i : Nat} {rest : List S81} (h : At e i (x ++ rest))
  (hr : ∀ z r, rest = z :: r → z.fSign = false ∨ z.fPoint = 40 ∨ z.fPoint = 91) (acc : List P24) (ha : acc.length ≤ 10000) : B17e m K e (acc, (i : Int)) = some (.nxt (acc ++ [p], ((i + x.length : Nat) : Int))) := by
 obtain ⟨p', y, q, z, hps, h0, rfl, hrun⟩ := hx.inv1 m K rfl
 cases hps
 have hA : At e i (y ++ (z ++ rest)) := by simpa using h
 obtain ⟨k, hk, hrun⟩ := hrun e i rest hA
 have h5 := h.2.2
 have hlen := h.len
 simp only [List.length_append] at hlen
 have hyl : 0 < y.length := List.length_pos_iff.2 h0.ne.1
 -- behind the atom
 have rest13 : ∀ (j : Nat), j = i + y.length - 1 → f31_j13 m K e acc (j : Int) q.vw.fKind q.vw.fLabels q.vw.fSubs q.vw.fLeast q.vw.fMost = some (.nxt (acc ++ [p], ((i + (y ++ z).length : Nat) : Int))) := by
  intro j hj
  subst hj
  obtain ⟨M, rfl⟩ : ∃ M, m = M + 1 + k := ⟨m - 1 - k, by omega⟩
  have hw : w64 (((i + (y ++ z).length - 1 : Nat) : Int) + 1) = ((i + (y ++ z).length : Nat) : Int) := by
   rw [List.length_append, w64_id ⟨by omega, by omega⟩]; omega
  have hend := b12_end (M + 1 + k) K (e := e) (i := i + (y ++ z).length - 1) (t := rest) (by
   have := hA.app.app
   rw [show i + (y ++ z).length - 1 + 1 = i + y.length + z.length by rw [List.length_append]; omega]
   exact this) hr p.vw M
  unfold f31_j13
  have hit : iter (fun (y : Int × Int × (List Int) × (List P24) × Int × Int) => f31_B12 (M + 1 + k) K e y.1 y.2.1 y.2.2.1 y.2.2.2.1 y.2.2.2.2.1 y.2.2.2.2.2) (M + 1 + k) (((i + y.length - 1 : Nat) : Int), q.vw.fKind, q.vw.fLabels, q.vw.fSubs, q.vw.fLeast, q.vw.fMost) = some (.inr (stE (i + (y ++ z).length - 1) p.vw)) := (hrun (M + 1)).trans hend
  rw [hit, brk_inr]
  show (bnd (app 72 acc [P24.con p.vw]) fun v636 => some (Stp.nxt (v636, w64 (((i + (y ++ z).length - 1 : Nat) : Int) + 1)))) = _
  rw [P24.con_vw, app_some 72 acc [p] (by simp; omega) (by simp; omega), bnd_some', hw]
 show f31_B17 m K e acc (i : Int) = _
 have hlt : i < e.length := by omega
 unfold f31_B17
 rw [decide_eq_true (by omega), cnd_true]
 cases h0 with
 | chr c =>
  have hA : At e i (pl c :: (z ++ rest)) := hA
  rw [hA.idx, bnd_some']
  show cnd true _ _ = _
  rw [cnd_true, bnd_some']
  have := rest13 i (by simp)
  rw [P24.vw_con] at this
  exact this
 | emp =>
  have hA : At e i (sg 40 :: ([] ++ sg 41 :: (z ++ rest))) := hA
  rw [hA.idx, bnd_some']
  show cnd false _ _ = _
  rw [cnd_false, clo_paren m hm (Pas.nil m) hA, bnd_some', bnd_some']
  show cnd false _ _ = _
  rw [cnd_false]
  have hw : w64 ((i : Int) + 1) = ((i + 1 : Nat) : Int) := by rw [w64_id ⟨by omega, by omega⟩]; omega
  rw [hw, show (((i + ([] : List S81).length + 1 : Nat) : Int) == ((i + 1 : Nat) : Int)) = true by simp, cnd_true]
  have := rest13 (i + 1) (by simp)
  rw [P24.vw_con] at this
  exact this
 | set l hl =>
  have hA : At e i (sg 91 :: (l.map pl ++ sg 93 :: (z ++ rest))) := by simpa using hA
  simp only [List.length_cons, List.length_append, List.length_map] at hlen
  rw [hA.idx, bnd_some']
  show cnd false _ _ = _
  rw [cnd_false, clo_set m hm hA, bnd_some', bnd_some']
  show cnd true _ _ = _
  rw [cnd_true]
  have hw : w64 ((i : Int) + 1) = ((i + 1 : Nat) : Int) := by rw [w64_id ⟨by omega, by omega⟩]; omega
  have hsub : sub e (w64 ((i : Int) + 1)) ((i + l.length + 1 : Nat) : Int) = some (l.map pl) := by
   unfold sub
   rw [hw, if_pos ⟨by omega, by omega, by omega⟩, Int.toNat_natCast, Int.toNat_natCast, hA.next.1, show i + l.length + 1 - (i + 1) = (l.map pl).length by rw [List.length_map]; omega, List.take_left]
  rw [hsub, bnd_some', lab_loop31 m K l hm (by omega), brk_inr]
  unfold f31_j14
  have := rest13 (i + l.length + 1) (by simp; omega)
  rw [P24.vw_con] at this
  rw [foldI_eq]
  exact this
 | @par y _ hin =>
  have hA : At e i (sg 40 :: (y ++ sg 41 :: (z ++ rest))) := by simpa using hA
  simp only [List.length_cons, List.length_append] at hlen
  have hy0 : 0 < y.length := List.length_pos_iff.2 hin.ne.1
  rw [hA.idx, bnd_some']
  show cnd false _ _ = _
  rw [cnd_false, clo_paren m hm (hin.pas m) hA, bnd_some', bnd_some']
  show cnd false _ _ = _
  have hw : w64 ((i : Int) + 1) = ((i + 1 : Nat) : Int) := by rw [w64_id ⟨by omega, by omega⟩]; omega
  have hsub : sub e (w64 ((i : Int) + 1)) ((i + y.length + 1 : Nat) : Int) = some y := by
   unfold sub
   rw [hw, if_pos ⟨by omega, by omega, by omega⟩, Int.toNat_natCast, Int.toNat_natCast, hA.next.1, show i + y.length + 1 - (i + 1) = y.length by omega, List.take_left]
  rw [cnd_false, hsub, hw, show (((i + y.length + 1 : Nat) : Int) == ((i + 1 : Nat) : Int)) = false by simp; omega, cnd_false, bnd_some', hK y q (by simp; omega) hin, bnd_some']
  exact rest13 (i + y.length + 1) (by simp; omega)
theorem factors31 (m : Nat) (hm : 100000 ≤ m) (K : Rec31) {e : List S81} (n : Nat) (hK : ∀ (y : List S81) (q : P24), y.length < n → Sh 6 y [q] → K.r31 y = some q.vw) : ∀ (fs : List (List S81 × P24)) (M i : Nat) (acc : List P24), (∀ o ∈ fs, Sh 1 o.1 [o.2]) → (∀ o ∈ fs, o.1.length ≤ n) → At e i (fs.flatMap (·.1)) → acc.length ≤ i → fs.length < M →
  iter (B17e m K e) M (acc, (i : Int)) = some (.inr (acc ++ fs.map (·.2), (e.length : Int)))
 | _, 0, _, _, _, _, _, _, h => by omega
 | [], M + 1, i, acc, _, _, h, _, _ => by
  have hi : i = e.length := by have := h.len; simpa using this
  have hB : B17e m K e (acc, (i : Int)) = some (.brk (acc, (i : Int))) := by
   show f31_B17 m K e acc (i : Int) = _
   unfold f31_B17
   rw [decide_eq_false (by omega), cnd_false]
  unfold iter
  rw [hB]
  simp [hi]
 | o :: fs, M + 1, i, acc, h1, h2, h, ha, hM => by
  have h : At e i (o.1 ++ fs.flatMap (·.1)) := h
  have hl := h.len
  have h5 := h.2.2
  have hr : ∀ z r, fs.flatMap (·.1) = z :: r → z.fSign = false ∨ z.fPoint = 40 ∨ z.fPoint = 91 := by
   intro z r hz
   cases fs with
   | nil => cases hz
   | cons o' fs' =>
    obtain ⟨w, r', e1, e2⟩ := (h1 o' (List.mem_cons_of_mem _ List.mem_cons_self)).first
    rw [List.flatMap_cons, e1] at hz
    have := (List.cons.inj hz).1
    rw [← this]; exact e2
  have hb := factor31 m hm K (h1 o List.mem_cons_self) (fun y q hy => hK y q (by have := h2 o List.mem_cons_self; omega)) h hr acc (by omega)
  have hol : 0 < o.1.length := List.length_pos_iff.2 (h1 o List.mem_cons_self).ne.1
  conv => lhs; unfold iter
  rw [hb]
  refine (factors31 m hm K n hK fs M (i + o.1.length) (acc ++ [o.2]) (fun z hz => h1 z (List.mem_cons_of_mem _ hz)) (fun z hz => h2 z (List.mem_cons_of_mem _ hz)) h.app (by simp; omega) (by simpa using hM)).trans ?_
  simp
theorem rowP_v (k : Int) (ps : List P24) (h : ps ≠ []) : cnd ((ps.length : Int) == 1) (bnd (idx ps 0) fun v => some v.vw) (some (⟨k, [], ps, 0, 0⟩ : S24)) = some (rowP k ps).vw := by
 match ps, h with
 | [p], _ => rfl
 | p :: q :: r, _ =>
  rw [show (((p :: q :: r).length : Int) == 1) = false from beq_eq_false_iff_ne.2 (by simp only [List.length_cons]; omega), cnd_false]
  show _ = some (P24.con (⟨k, [], p :: q :: r, 0, 0⟩ : S24)).vw
  rw [P24.vw_con]
theorem flat_mem {α : Type} {fs : List (List α × P24)} {o : List α × P24} (h : o ∈ fs) : o.1.length ≤ (fs.flatMap (·.1)).length := by
 induction fs with
 | nil => cases h
 | cons a r ih =>
  rw [List.flatMap_cons, List.length_append]
  rcases List.mem_cons.1 h with rfl | h
  ·omega
  ·have := ih h; omega
theorem flat_len (fs : List (List S81 × P24)) (h : ∀ o ∈ fs, o.1 ≠ []) : fs.length ≤ (fs.flatMap (·.1)).length := by
 induction fs with
 | nil => simp
 | cons a r ih =>
  rw [List.flatMap_cons, List.length_append, List.length_cons]
  have := List.length_pos_iff.2 (h a List.mem_cons_self)
  have := ih fun o ho => h o (List.mem_cons_of_mem _ ho)
  omega
theorem row31 (m : Nat) (hm : 100000 ≤ m) (K : Rec31) {e : List S81} {p : P24} (h : Sh 3 e [p]) (h5 : e.length ≤ 5000) (hK : ∀ (y : List S81) (q : P24), y.length < e.length → Sh 6 y [q] → K.r31 y = some q.vw) :
  (brk (iter (fun (y : (List P24) × Int) => f31_B17 m K e y.1 y.2) m ([], 0)) some fun y684 => cnd ((y684.1.length : Int) == 1) (bnd (idx y684.1 0) fun v686 => some v686.vw) (some ((⟨3, [], y684.1, 0, 0⟩ : S24)))) = some p.vw := by
 obtain ⟨ps, hp, h2⟩ : ∃ ps, p = rowP 3 ps ∧ Sh 2 e ps := by
  cases h with
  | seq h => exact ⟨_, rfl, h⟩
 obtain ⟨fs, f1, f2, f3⟩ := h2.inv2 rfl
 have hfl := flat_len fs fun o ho => (f1 o ho).ne.1
 rw [← f2] at hfl
 have hrun := factors31 m hm K (e := e) e.length hK fs m 0 [] f1 (fun o ho => by rw [f2]; exact flat_mem ho) ⟨by rw [List.drop_zero]; exact f2, Nat.zero_le _, h5⟩ (Nat.le_refl _) (by omega)
 have hrun : iter (fun (y : (List P24) × Int) => f31_B17 m K e y.1 y.2) m ([], 0) = some (.inr (ps, (e.length : Int))) := by
  rw [f3]; exact hrun
 rw [hrun, brk_inr]
 show cnd ((ps.length : Int) == 1) _ _ = _
 rw [rowP_v 3 ps h2.ne.2, hp]
theorem ops31 (m : Nat) (K : Rec31) (v : (List (List S81)) × (List Int)) (hl : v.1.length ≤ 10000) : ∀ (ops : List (Bool × List S81 × P24)) (M i : Nat) (p : P24), (∀ o ∈ ops, K.r31 o.2.1 = some o.2.2.vw) → v.2.drop i = ops.map (fun o => ((opK o.1 : Nat) : Int)) → v.1.drop (i + 1) = ops.map (fun o => o.2.1) → i ≤ v.2.length → v.2.length ≤ 10000 → ops.length < M →
  ∃ j : Int, iter (fun (y : Int × Int × (List Int) × (List P24) × Int × Int) => f31_B3 m K v y.1 y.2.1 y.2.2.1 y.2.2.2.1 y.2.2.2.2.1 y.2.2.2.2.2) M (stE i p.vw) = some (.inr (j, (stE 0 (foldO p ops).vw).2))
 | _, 0, _, _, _, _, _, _, _, h => by omega
 | [], M + 1, i, p, _, h1, _, hi, _, _ => by
  have : i = v.2.length := by
   have := congrArg List.length h1
   simp at this
   omega
  refine ⟨(i : Int), ?_⟩
  have hB : f31_B3 m K v (i : Int) p.vw.fKind p.vw.fLabels p.vw.fSubs p.vw.fLeast p.vw.fMost = some (.brk (stE i p.vw)) := by
   unfold f31_B3
   rw [decide_eq_false (by omega), cnd_false]
   rfl
  unfold iter
  dsimp only [stE]
  rw [hB]
  rfl
 | o :: ops, M + 1, i, p, hK, h1, h2, hi, hl2, hM => by
  have hlt : i < v.2.length := by
   have := congrArg List.length h1
   simp at this
   omega
  have hlt2 : i + 1 < v.1.length := by
   have := congrArg List.length h2
   simp at this
   omega
  have g1 : v.2[i] = ((opK o.1 : Nat) : Int) ∧ v.2.drop (i + 1) = ops.map (fun o => ((opK o.1 : Nat) : Int)) := by
   rw [List.drop_eq_getElem_cons hlt, List.map_cons, List.cons.injEq] at h1
   exact h1
  have g2 : v.1[i + 1] = o.2.1 ∧ v.1.drop (i + 1 + 1) = ops.map (fun o => o.2.1) := by
   rw [List.drop_eq_getElem_cons hlt2, List.map_cons, List.cons.injEq] at h2
   exact h2
  have hw : w64 ((i : Int) + 1) = ((i + 1 : Nat) : Int) := by rw [w64_id ⟨by omega, by omega⟩]; omega
  have e1 : idx v.2 (i : Int) = some ((opK o.1 : Nat) : Int) := by simp [idx, List.getElem?_eq_getElem hlt, g1.1]
  have e2 : idx v.1 ((i + 1 : Nat) : Int) = some o.2.1 := by
   unfold idx
   rw [if_pos (by omega), Int.toNat_natCast, List.getElem?_eq_getElem hlt2, g2.1]
  have hcon : P24.con (⟨p.vw.fKind, p.vw.fLabels, p.vw.fSubs, p.vw.fLeast, p.vw.fMost⟩ : S24) = p := P24.con_vw p
  have hB : f31_B3 m K v (i : Int) p.vw.fKind p.vw.fLabels p.vw.fSubs p.vw.fLeast p.vw.fMost = some (.nxt (stE (i + 1) (P24.con (⟨if o.1 then 6 else 7, [], [p, o.2.2], 0, 0⟩ : S24)).vw)) := by
   rw [P24.vw_con]
   unfold f31_B3
   rw [decide_eq_true (by omega), cnd_true, e1, bnd_some']
   cases ho : o.1 with
   | true =>
    rw [show (((opK true : Nat) : Int) == 45) = false from rfl, cnd_false]
    unfold f31_j2
    rw [hw, e2, bnd_some', hK o List.mem_cons_self, bnd_some', hcon, P24.con_vw]
    rfl
   | false =>
    rw [show (((opK false : Nat) : Int) == 45) = true from rfl, cnd_true]
    unfold f31_j2
    rw [hw, e2, bnd_some', hK o List.mem_cons_self, bnd_some', hcon, P24.con_vw]
    rfl
  obtain ⟨j, ih⟩ := ops31 m K v hl ops M (i + 1) (P24.con (⟨if o.1 then 6 else 7, [], [p, o.2.2], 0, 0⟩ : S24)) (fun z hz => hK z (List.mem_cons_of_mem _ hz)) g1.2 g2.2 hlt hl2 (by simpa using hM)
  refine ⟨j, ?_⟩
  unfold iter
  dsimp only [stE]
  rw [hB]
  exact ih
theorem alts31 (m : Nat) (K : Rec31) (v : (List (List S81)) × (List Int)) (hl : v.1.length ≤ 10000) : ∀ (xs : List (List S81 × P24)) (M i : Nat) (acc : List P24), (∀ o ∈ xs, K.r31 o.1 = some o.2.vw) → v.1.drop i = xs.map (·.1) → i ≤ v.1.length → acc.length ≤ i → xs.length < M →
  iter (fun (y : Int × (List P24)) => f31_B1 m K v y.1 y.2) M ((i : Int), acc) = some (.inr ((v.1.length : Int), acc ++ xs.map (·.2)))
 | _, 0, _, _, _, _, _, _, h => by omega
 | [], M + 1, i, acc, _, h1, hi, _, _ => by
  have : i = v.1.length := by
   have := congrArg List.length h1
   simp at this
   omega
  unfold iter
  dsimp only
  unfold f31_B1
  rw [decide_eq_false (by omega), cnd_false]
  simp [this]
 | o :: xs, M + 1, i, acc, hK, h1, hi, ha, hM => by
  have hlt : i < v.1.length := by
   have := congrArg List.length h1
   simp at this
   omega
  have g1 : v.1[i] = o.1 ∧ v.1.drop (i + 1) = xs.map (·.1) := by
   rw [List.drop_eq_getElem_cons hlt, List.map_cons, List.cons.injEq] at h1
   exact h1
  have hw : w64 ((i : Int) + 1) = ((i + 1 : Nat) : Int) := by rw [w64_id ⟨by omega, by omega⟩]; omega
  have e1 : idx v.1 (i : Int) = some o.1 := by simp [idx, List.getElem?_eq_getElem hlt, g1.1]
  unfold iter
  dsimp only
  unfold f31_B1
  rw [decide_eq_true (by omega), cnd_true, e1, bnd_some', hK o List.mem_cons_self, bnd_some', P24.con_vw, app_some 72 acc _ (by simp; omega) (by simp; omega), bnd_some', hw]
  refine (alts31 m K v hl xs M (i + 1) (acc ++ [o.2]) (fun z hz => hK z (List.mem_cons_of_mem _ hz)) g1.2 hlt (by simp; omega) (by simpa using hM)).trans ?_
  simp
theorem ops_mem {ops : List (Bool × List S81 × P24)} {o : Bool × List S81 × P24} (h : o ∈ ops) : o.2.1.length < (ops.flatMap (fun o => sg (opK o.1) :: o.2.1)).length := by
 induction ops with
 | nil => cases h
 | cons a r ih =>
  rw [List.flatMap_cons, List.length_append, List.length_cons]
  rcases List.mem_cons.1 h with rfl | h
  ·omega
  ·have := ih h; omega
theorem ops_len (ops : List (Bool × List S81 × P24)) : ops.length ≤ (ops.flatMap (fun o => sg (opK o.1) :: o.2.1)).length := by
 induction ops with
 | nil => simp
 | cons a r ih => rw [List.flatMap_cons, List.length_append, List.length_cons, List.length_cons]; omega
theorem both31 (m : Nat) (hm : 100000 ≤ m) (K : Rec31) {e : List S81} {p : P24} (h : Sh 4 e [p]) (h5 : e.length ≤ 5000) (hK : ∀ (y : List S81) (q : P24), y.length < e.length → (Sh 6 y [q] ∨ Sh 3 y [q]) → K.r31 y = some q.vw) : b31 m K e = some p.vw := by
 have hs1 := split_eq m hm (L := [124]) (.inl rfl) e [] (h.pasS hm (.inl rfl) (.inr ⟨Nat.le_refl _, rfl⟩)) (fun o ho => nomatch ho) (e := e) (by simp) h5
 have hs1 : f50 m e [124] = some ([e], []) := hs1
 unfold b31
 rw [hs1, bnd_some']
 show cnd false _ _ = _
 rw [cnd_false]
 obtain ⟨y, q, ops, h1, h2, h3, h4⟩ := h.inv4 rfl
 have hp : p = foldO q ops := (List.cons.inj h4).1
 have hs2 := split_eq m hm (L := [38, 45]) (.inr rfl) y (ops.map fun o => (opK o.1, o.2.1)) (h1.pasS hm (.inr rfl) (.inl (Nat.le_refl _))) (fun z hz => by
  obtain ⟨o, ho, rfl⟩ := List.mem_map.1 hz
  refine ⟨(h2 o ho).pasS hm (.inr rfl) (.inl (Nat.le_refl _)), ?_⟩
  show ((opK o.1 : Nat) : Int) ∈ [(38 : Int), 45] ∧ opK o.1 ≠ 40 ∧ opK o.1 ≠ 91
  cases o.1 <;> decide) (e := e) (by rw [h3, List.flatMap_map]) h5
 rw [hs2, bnd_some', List.map_map, List.map_map]
 have hol := ops_len ops
 have hel : e.length = y.length + (ops.flatMap (fun o => sg (opK o.1) :: o.2.1)).length := by rw [h3, List.length_append]
 cases hops : ops with
 | nil =>
  subst hops
  show cnd false _ _ = _
  rw [cnd_false]
  have e1 : y = e := by rw [h3]; simp
  have e2 : q = p := by rw [hp]; rfl
  rw [e1, e2] at h1
  exact row31 m hm K h1 h5 fun y q hy hs => hK y q hy (.inl hs)
 | cons o os =>
  rw [← hops]
  have hne : 0 < ops.length := by rw [hops]; simp
  show cnd (decide (((y :: ops.map fun o => o.2.1).length : Int) > 1)) _ _ = _
  rw [decide_eq_true (by simp only [List.length_cons, List.length_map]; omega), cnd_true]
  show (bnd (idx (y :: ops.map fun o => o.2.1) 0) fun v28 => _) = _
  rw [show idx (y :: ops.map fun o => o.2.1) 0 = some y from rfl, bnd_some', hK y q (by omega) (.inr h1), bnd_some']
  obtain ⟨j, hj⟩ := ops31 m K (y :: ops.map (fun o => o.2.1), ops.map (fun o => ((opK o.1 : Nat) : Int))) (by simp; omega) ops m 0 q (fun o ho => hK _ _ (by have := ops_mem ho; omega) (.inr (h2 o ho))) rfl rfl (Nat.zero_le _) (by simp; omega) (by omega)
  show brk (iter (fun (y_1 : Int × Int × (List Int) × (List P24) × Int × Int) => f31_B3 m K (y :: ops.map (fun o => o.2.1), ops.map (fun o => ((opK o.1 : Nat) : Int))) y_1.1 y_1.2.1 y_1.2.2.1 y_1.2.2.2.1 y_1.2.2.2.2.1 y_1.2.2.2.2.2) m (stE 0 q.vw)) _ _ = _
  rw [hj, brk_inr, hp]
  rfl
theorem xs_mem {xs : List (List S81 × P24)} {o : List S81 × P24} (h : o ∈ xs) : o.1.length < (xs.flatMap (fun o => sg 124 :: o.1)).length := by
 induction xs with
 | nil => cases h
 | cons a r ih =>
  rw [List.flatMap_cons, List.length_append, List.length_cons]
  rcases List.mem_cons.1 h with rfl | h
  ·omega
  ·have := ih h; omega
theorem xs_len (xs : List (List S81 × P24)) : xs.length ≤ (xs.flatMap (fun o => sg 124 :: o.1)).length := by
 induction xs with
 | nil => simp
 | cons a r ih => rw [List.flatMap_cons, List.length_append, List.length_cons, List.length_cons]; omega
theorem either31 (m : Nat) (hm : 100000 ≤ m) (K : Rec31) {e : List S81} {p : P24} (h : Sh 6 e [p]) (h5 : e.length ≤ 5000) (hK : ∀ (n : Nat) (y : List S81) (q : P24), y.length < e.length → (n = 6 ∨ n = 4 ∨ n = 3) → Sh n y [q] → K.r31 y = some q.vw) : b31 m K e = some p.vw := by
 obtain ⟨ps, hp, h2⟩ : ∃ ps, p = rowP 4 ps ∧ Sh 5 e ps := by
  cases h with
  | ei h => exact ⟨_, rfl, h⟩
 obtain ⟨y, q, xs, h1, h3, h4, h6⟩ := h2.inv5 rfl
 have hel : e.length = y.length + (xs.flatMap (fun o => sg 124 :: o.1)).length := by rw [h4, List.length_append]
 have hxl := xs_len xs
 cases hxs : xs with
 | nil =>
  subst hxs
  have e1 : y = e := by rw [h4]; simp
  have e2 : q = p := by rw [hp, h6]; rfl
  rw [e1, e2] at h1
  exact both31 m hm K h1 h5 fun y q hy hs => by
   rcases hs with hs | hs
   ·exact hK 6 y q hy (.inl rfl) hs
   ·exact hK 3 y q hy (.inr (.inr rfl)) hs
 | cons o os =>
  have hne : 0 < xs.length := by rw [hxs]; simp
  have hs2 := split_eq m hm (L := [124]) (.inl rfl) y (xs.map fun o => (124, o.1)) (h1.pasS hm (.inl rfl) (.inr ⟨Nat.le_refl _, rfl⟩)) (fun z hz => by
   obtain ⟨o, ho, rfl⟩ := List.mem_map.1 hz
   exact ⟨(h3 o ho).pasS hm (.inl rfl) (.inr ⟨Nat.le_refl _, rfl⟩), by
    show ((124 : Nat) : Int) ∈ [(124 : Int)] ∧ (124 : Nat) ≠ 40 ∧ (124 : Nat) ≠ 91
    decide⟩) (e := e) (by rw [h4, List.flatMap_map]) h5
  unfold b31
  rw [hs2, bnd_some', List.map_map, List.map_map]
  show cnd (decide (((y :: xs.map fun o => o.1).length : Int) > 1)) _ _ = _
  rw [decide_eq_true (by simp only [List.length_cons, List.length_map]; omega), cnd_true]
  have hj := alts31 m K (y :: xs.map (fun o => o.1), xs.map (fun _ => ((124 : Nat) : Int))) (by simp; omega) ((y, q) :: xs) m 0 [] (fun o ho => by
   rcases List.mem_cons.1 ho with rfl | ho
   ·exact hK 4 _ _ (by show y.length < e.length; omega) (.inr (.inl rfl)) h1
   ·exact hK 4 _ _ (by have := xs_mem ho; omega) (.inr (.inl rfl)) (h3 o ho)) rfl (Nat.zero_le _) (Nat.le_refl _) (by simp; omega)
  show brk (iter (fun (y_1 : Int × (List P24)) => f31_B1 m K (y :: xs.map (fun o => o.1), xs.map (fun _ => ((124 : Nat) : Int))) y_1.1 y_1.2) m (((0 : Nat) : Int), [])) _ _ = _
  rw [hj, brk_inr, hp, h6]
  show some (⟨4, [], [] ++ ((y, q) :: xs).map (·.2), 0, 0⟩ : S24) = some (rowP 4 (q :: xs.map (·.2))).vw
  rw [hxs]
  show some (⟨4, [], q :: o.2 :: os.map (·.2), 0, 0⟩ : S24) = some (P24.con (⟨4, [], q :: o.2 :: os.map (·.2), 0, 0⟩ : S24)).vw
  rw [P24.vw_con]
theorem shaped_eq (m : Nat) (hm : 100000 ≤ m) : ∀ (N R : Nat) (n : Nat) (e : List S81) (p : P24), e.length ≤ N → N < R → e.length ≤ 5000 → (n = 6 ∨ n = 4 ∨ n = 3) → Sh n e [p] → (K31 m R).r31 e = some p.vw := by
 intro N
 induction N with
 | zero =>
  intro R n e p h1 _ _ _ h
  exact absurd (List.length_eq_zero_iff.1 (by omega)) h.ne.1
 | succ N ih =>
  intro R n e p h1 h2 h5 hn h
  obtain ⟨R, rfl⟩ : ∃ R', R = R' + 1 := ⟨R - 1, by omega⟩
  show b31 m (K31 m R) e = some p.vw
  have hK : ∀ (n : Nat) (y : List S81) (q : P24), y.length < e.length → (n = 6 ∨ n = 4 ∨ n = 3) → Sh n y [q] → (K31 m R).r31 y = some q.vw := fun n y q hy hn hs => ih R n y q (by omega) (by omega) (by omega) hn hs
  rcases hn with rfl | rfl | rfl
  ·exact either31 m hm _ h h5 hK
  ·exact both31 m hm _ h h5 fun y q hy hs => by
    rcases hs with hs | hs
    ·exact hK 6 y q hy (.inl rfl) hs
    ·exact hK 3 y q hy (.inr (.inr rfl)) hs
  ·exact both31 m hm _ (.one h) h5 fun y q hy hs => by
    rcases hs with hs | hs
    ·exact hK 6 y q hy (.inl rfl) hs
    ·exact hK 3 y q hy (.inr (.inr rfl)) hs
end Go.Abs
