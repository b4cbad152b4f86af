/-
  PATTERNS, the plain laws: the reader, part by part.
-/
import Derived.Test.YtipdmkcbneglpaaDoorPF
namespace Go.Abs
open Go.Sort Go.Proofs
set_option linter.unusedVariables false
set_option maxRecDepth 100000

def st (l : List Nat) (i : Nat) : S58 := ⟨castL l, (i : Int)⟩
def Cut (l : List Nat) (i : Nat) (t : List Nat) : Prop := l.drop i = t ∧ i ≤ l.length ∧ l.length ≤ 4000
theorem Cut.lt {l : List Nat} {i x : Nat} {r : List Nat} (h : Cut l i (x :: r)) : i < l.length := by
  rcases Nat.lt_or_ge i l.length with g | g
  · exact g
  · have := h.1
    rw [List.drop_eq_nil_iff.2 g] at this
    cases this
theorem Cut.idx {l : List Nat} {i x : Nat} {r : List Nat} (h : Cut l i (x :: r)) : Abs.idx (castL l) (i : Int) = some (x : Int) := by
  have h1 := h.1
  rw [List.drop_eq_getElem_cons h.lt, List.cons.injEq] at h1
  simp [Abs.idx, castL, List.getElem?_eq_getElem h.lt, h1.1]
theorem Cut.next {l : List Nat} {i x : Nat} {r : List Nat} (h : Cut l i (x :: r)) : Cut l (i + 1) r := by
  have h1 := h.1
  have hl := h.lt
  rw [List.drop_eq_getElem_cons hl, List.cons.injEq] at h1
  exact ⟨h1.2, hl, h.2.2⟩
theorem Cut.app {l : List Nat} : ∀ {a : List Nat} {i : Nat} {r : List Nat}, Cut l i (a ++ r) → Cut l (i + a.length) r
  | [], i, r, h => by simpa using h
  | x :: a, i, r, h => by
    have := Cut.app (a := a) (Cut.next (x := x) (r := a ++ r) h)
    rw [List.length_cons]
    have e : i + (a.length + 1) = i + 1 + a.length := by omega
    rw [e]
    exact this
theorem Cut.nil {l : List Nat} {i : Nat} (h : Cut l i []) : i = l.length := by
  have := List.drop_eq_nil_iff.1 h.1
  have := h.2.1
  omega
theorem Cut.w {l : List Nat} {i : Nat} {t : List Nat} (h : Cut l i t) : w64 ((i : Int) + 1) = ((i + 1 : Nat) : Int) := by
  have := h.2.1; have := h.2.2
  rw [w64_id ⟨by omega, by omega⟩]; omega
theorem is_eq (m : Nat) {l : List Nat} {i : Nat} {t : List Nat} (h : Cut l i t) (c : Nat) : f46 m (st l i) (c : Int) = some (t.head? == some c) := by
  unfold f46 f46_r1 st
  dsimp only
  rw [castL_len]
  cases t with
  | nil =>
    rw [decide_eq_false (by have := h.nil; omega), cnd_false, bnd_some']
    rfl
  | cons x r =>
    rw [decide_eq_true (by have := h.lt; omega), cnd_true, h.idx, bnd_some', bnd_some']
    have : ((x : Int) == (c : Int)) = (some x == some c) := by
      by_cases e : x = c
      · subst e; simp
      · have h1 : ((x : Int) == (c : Int)) = false := by simp; omega
        rw [h1]
        simp [e]
    rw [this]
    rfl
theorem letter_eq (m : Nat) {l : List Nat} {i p : Nat} {r : List Nat} (h : Cut l i (signs p ++ r)) (h1 : 1 ≤ p) : f81 m (st l i) = some (((p : Int), true), st l (i + (signs p).length)) := by
  have j1 : ∀ {k : Nat} {r : List Nat}, Cut l k (p :: r) → f81_j1 m (st l i) (k : Int) = some (((p : Int), true), st l (k + 1)) := by
    intro k r hk
    unfold f81_j1
    show (bnd (idx (castL l) (k : Int)) fun v59 => _) = _
    have hw := hk.w
    have hl := hk.lt
    have h4 := hk.2.2
    rw [hk.idx, bnd_some', show ((p : Int) == 0) = false by simp; omega, cnd_false, hw, show w64 (((k + 1 : Nat) : Int) - 1) = (k : Int) by rw [w64_id ⟨by omega, by omega⟩]; omega]
    show (bnd (idx (castL l) (k : Int)) fun v60 => _) = _
    rw [hk.idx]
    rfl
  unfold f81
  rw [show (92 : Int) = ((92 : Nat) : Int) from rfl, is_eq m h 92, bnd_some']
  by_cases hs : specL.contains p = true
  · have e : signs p = [92, p] := by unfold signs; rw [if_pos hs]
    rw [e] at h ⊢
    have h := h
    simp only [List.cons_append, List.nil_append] at h
    have hn := h.next
    rw [show (([92, p] ++ r).head? == some 92) = true from rfl, cnd_true]
    show cnd (w64 ((i : Int) + 1) == ((castL l).length : Int)) _ (f81_j1 m (st l i) (w64 ((i : Int) + 1))) = _
    rw [h.w, castL_len, show (((i + 1 : Nat) : Int) == (l.length : Int)) = false by have := hn.lt; simp; omega, cnd_false]
    exact j1 hn
  · have hs' : specL.contains p = false := by simpa using hs
    have e : signs p = [p] := by unfold signs; rw [hs']; rfl
    rw [e] at h ⊢
    simp only [List.cons_append, List.nil_append] at h
    have h92 : p ≠ 92 := by intro h; subst h; cases hs'
    rw [show (([p] ++ r).head? == some 92) = false by simp [h92], cnd_false]
    show (bnd (cnd ((i : Int) == ((castL l).length : Int)) _ (bnd (idx (castL l) (i : Int)) _)) _) = _
    rw [castL_len, show ((i : Int) == (l.length : Int)) = false by have := h.lt; simp; omega, cnd_false, h.idx, bnd_some']
    have hin : (cnd (decide ((p : Int) < 128)) (bnd (idx (castL l) (i : Int)) fun v95 => bnd (f56 m ((⟨#[40, 41, 91, 93, 124, 38, 45, 42, 43, 63, 123, 125, 44, 92]⟩ : ByteArray)) (IntKind.u8.wrap v95)) fun v96 => some (decide (v96 ≥ 0))) (some false)) = some false := by
      by_cases hb : p < 128
      · rw [decide_eq_true (by omega : (p : Int) < 128), cnd_true, h.idx, bnd_some']
        unfold f56
        rw [bnd_some', ix_spec p hb, hs']
      · rw [decide_eq_false (by omega : ¬ (p : Int) < 128), cnd_false]
    rw [show (st l i).fL = castL l from rfl, show (st l i).fAt = (i : Int) from rfl, hin, bnd_some']
    unfold f81_r2
    rw [cnd_false]
    exact j1 h
theorem digit_eq (m : Nat) {l : List Nat} {i k : Nat} {r : List Nat} (h : Cut l i ((48 + k) :: r)) (hk : k ≤ 9) : f75 m (st l i) = some (((k : Int), true), st l (i + 1)) := by
  have hw := h.w
  have hl := h.lt
  have h4 := h.2.2
  unfold f75
  show (bnd (cnd ((i : Int) == ((castL l).length : Int)) _ (bnd (idx (castL l) (i : Int)) _)) _) = _
  rw [castL_len, show ((i : Int) == (l.length : Int)) = false by simp; omega, cnd_false, h.idx, bnd_some', decide_eq_false (by omega), bnd_some']
  unfold f75_r2
  rw [cnd_false]
  show (bnd (bnd (idx (castL l) (i : Int)) _) _) = _
  rw [h.idx, bnd_some', decide_eq_false (by omega), bnd_some']
  unfold f75_r1
  rw [cnd_false]
  show (bnd (idx (castL l) (w64 (w64 ((i : Int) + 1) - 1))) _) = _
  rw [hw, show w64 (((i + 1 : Nat) : Int) - 1) = (i : Int) by rw [w64_id ⟨by omega, by omega⟩]; omega, h.idx, bnd_some', show w64 (((48 + k : Nat) : Int) - 48) = (k : Int) by rw [w64_id ⟨by omega, by omega⟩]; omega]
  show some (_, (⟨castL l, w64 ((i : Int) + 1)⟩ : S58)) = _
  rw [hw]
  rfl
/-! ### what a part of the reader does -/
def PP (f : S58 → Int → Option ((S24 × Bool) × S58)) (ok : List Nat → Prop) (T : List Nat) (p : S24) (d : Int) : Prop :=
  ∀ (l : List Nat) (i : Nat) (rest : List Nat), ok rest → Cut l i (T ++ rest) → f (st l i) d = some ((p, true), st l (i + T.length))
def Any (_ : List Nat) : Prop := True
def NoOp (t : List Nat) : Prop := ∀ x, t.head? = some x → x ≠ 42 ∧ x ≠ 43 ∧ x ≠ 63 ∧ x ≠ 123
def stopL : List Nat := [41, 93, 124, 38, 45, 42, 43, 63, 123, 125, 44]
def StopS (t : List Nat) : Prop := ∀ x, t.head? = some x → x = 41 ∨ x = 124 ∨ x = 38 ∨ x = 45
def StopB (t : List Nat) : Prop := ∀ x, t.head? = some x → x = 41 ∨ x = 124
def StopE (t : List Nat) : Prop := ∀ x, t.head? = some x → x = 41
def First (t : List Nat) : Prop := ∃ x r, t = x :: r ∧ stopL.contains x = false
/-- a loop's state: all is well so far -/
def lp (ok : Bool) (l : List Nat) (i : Nat) (p : S24) : Bool × (List Int) × Int × Int × (List Int) × (List P24) × Int × Int := (ok, castL l, (i : Int), p.fKind, p.fLabels, p.fSubs, p.fLeast, p.fMost)
noncomputable def B67 (m : Nat) (K : Rec28) : Bool × (List Int) × Int × Int × (List Int) × (List P24) × Int × Int → Option (Stp ((S24 × Bool) × S58) (Bool × (List Int) × Int × Int × (List Int) × (List P24) × Int × Int)) := fun y => f67_B7 m K y.1 y.2.1 y.2.2.1 y.2.2.2.1 y.2.2.2.2.1 y.2.2.2.2.2.1 y.2.2.2.2.2.2.1 y.2.2.2.2.2.2.2
noncomputable def B45 (m : Nat) (K : Rec28) (d : Int) : Bool × (List Int) × Int × Int × (List Int) × (List P24) × Int × Int → Option (Stp ((S24 × Bool) × S58) (Bool × (List Int) × Int × Int × (List Int) × (List P24) × Int × Int)) := fun y => f45_B3 m K d y.1 y.2.1 y.2.2.1 y.2.2.2.1 y.2.2.2.2.1 y.2.2.2.2.2.1 y.2.2.2.2.2.2.1 y.2.2.2.2.2.2.2
theorem b67_end (m : Nat) (K : Rec28) {l : List Nat} {i : Nat} {t : List Nat} (h : Cut l i t) (hn : NoOp t) (p : S24) (M : Nat) : iter (B67 m K) (M + 1) (lp true l i p) = some (.inr (lp true l i p)) := by
  have e : ∀ c : Nat, (c = 42 ∨ c = 43 ∨ c = 63 ∨ c = 123) → f46 m (⟨castL l, (i : Int)⟩ : S58) (c : Int) = some false := by
    intro c hc
    have := is_eq m h c
    have h2 : (t.head? == some c) = false := by
      cases ht : t.head? with
      | none => rfl
      | some x =>
        have := hn x ht
        have : x ≠ c := by omega
        simp [this]
    rw [h2] at this
    exact this
  have hb : B67 m K (lp true l i p) = some (.brk (lp true l i p)) := by
    show f67_B7 m K true (castL l) (i : Int) p.fKind p.fLabels p.fSubs p.fLeast p.fMost = _
    unfold f67_B7
    have e1 := e 42 (by omega); have e2 := e 43 (by omega); have e3 := e 63 (by omega); have e4 := e 123 (by omega)
    simp only [Int.cast_ofNat_Int] at e1 e2 e3 e4
    rw [cnd_true, e1, bnd_some', cnd_false, e2, bnd_some', cnd_false, e3, bnd_some', cnd_false, e4, bnd_some']
    rfl
  unfold iter
  rw [hb]
theorem b45_end (m : Nat) (K : Rec28) (d : Int) {l : List Nat} {i : Nat} {t : List Nat} (h : Cut l i t) (hn : StopB t) (p : S24) (M : Nat) : iter (B45 m K d) (M + 1) (lp true l i p) = some (.inr (lp true l i p)) := by
  have e : ∀ c : Nat, (c = 38 ∨ c = 45) → f46 m (⟨castL l, (i : Int)⟩ : S58) (c : Int) = some false := by
    intro c hc
    have := is_eq m h c
    have h2 : (t.head? == some c) = false := by
      cases ht : t.head? with
      | none => rfl
      | some x =>
        have := hn x ht
        have : x ≠ c := by omega
        simp [this]
    rw [h2] at this
    exact this
  have hb : B45 m K d (lp true l i p) = some (.brk (lp true l i p)) := by
    show f45_B3 m K d true (castL l) (i : Int) p.fKind p.fLabels p.fSubs p.fLeast p.fMost = _
    unfold f45_B3
    have e1 := e 38 (by omega); have e2 := e 45 (by omega)
    simp only [Int.cast_ofNat_Int] at e1 e2
    rw [cnd_true, e1, bnd_some', cnd_false, e2, bnd_some']
    rfl
  unfold iter
  rw [hb]
end Go.Abs
