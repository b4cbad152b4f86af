import Derived.Test.YtgieobehohljnaaDoorWF2
import Derived.Test.YtgieobehohljnaaDoorAbsZU
namespace Go.Abs
set_option linter.unusedVariables false
def WI (n : Int) : Prop := -9223372036854775808 ≤ n ∧ n ≤ 9223372036854775807
theorem wf_int {m : Int} (h : (Lit.int .i64 m).wf = true) : WI m := by
  have h : (decide (IntKind.i64.min ≤ m) && decide (m ≤ IntKind.i64.max)) = true := h
  have e1 : IntKind.i64.min = -9223372036854775808 := by decide
  have e2 : IntKind.i64.max = 9223372036854775807 := by decide
  rw [e1, e2, Bool.and_eq_true, decide_eq_true_eq, decide_eq_true_eq] at h
  exact h
def WStr (s : ByteArray) : Prop := s.size ≤ maxLen
def WL {α : Type} (W : α → Prop) (l : List α) : Prop := l.length ≤ maxLen ∧ ∀ a ∈ l, W a
theorem dec_slice {α : Type} {f : α → V} {W : α → Prop} {e t : Nat} (hT : (T t).map (·.kind) = some (.slice e)) (h : ∀ n x, typed T n e x → ∃ a, f a = x ∧ W a) : ∀ n x, typed T n t x → ∃ l : List α, eL f l = x ∧ WL W l := by
  intro n x hx
  obtain ⟨ti, h1, h2⟩ := Option.map_eq_some_iff.1 hT
  cases n with
  | zero => exact hx.elim
  | succ n =>
    simp only [typed, h1, h2] at hx
    obtain ⟨es, rfl, hl, he⟩ := hx
    have : ∀ es : List V, (∀ y ∈ es, typed T n e y) → ∃ l : List α, l.map f = es ∧ ∀ a ∈ l, W a := by
      intro es
      induction es with
      | nil => intro _; exact ⟨[], rfl, fun a h => by cases h⟩
      | cons y r ih =>
        intro hy
        obtain ⟨l, e1, w1⟩ := ih fun z hz => hy z (List.mem_cons_of_mem _ hz)
        obtain ⟨a, e2, w2⟩ := h n y (hy y List.mem_cons_self)
        refine ⟨a :: l, by rw [List.map_cons, e1, e2], fun b hb => ?_⟩
        rcases List.mem_cons.1 hb with rfl | hb
        · exact w2
        · exact w1 b hb
    obtain ⟨l, e1, w1⟩ := this es he
    subst e1
    exact ⟨l, rfl, by simpa using hl, w1⟩
theorem dec9 : ∀ n x, typed T n 9 x → ∃ a : ByteArray, eS a = x ∧ WStr a := by
  intro n x h
  cases n with
  | zero => exact h.elim
  | succ n =>
    have h : ∃ b, x = .str b ∧ b.size ≤ maxLen := h
    obtain ⟨b, rfl, hb⟩ := h
    exact ⟨b, rfl, hb⟩
def W40 (x : S39) : Prop := WStr x.fWord ∧ WStr x.fTag
theorem dec40 : ∀ n x, typed T n 40 x → ∃ a : S39, e39 a = x ∧ W40 a := by
  intro n x h
  cases n with
  | zero => exact h.elim
  | succ n =>
    obtain ⟨xs, hx, hh⟩ : ∃ xs : List V, x = .agg (xs.flatMap V.cells) ∧ typedAll (typed T n) [(0, 9), (1, 9)] xs := h
    subst hx
    match xs, hh with
    | [x0, x1], ⟨h0, h1, _⟩ =>
      obtain ⟨a0, rfl, w0⟩ := dec9 n x0 h0
      obtain ⟨a1, rfl, w1⟩ := dec9 n x1 h1
      exact ⟨⟨a0, a1⟩, rfl, w0, w1⟩
theorem dec22 : ∀ n x, typed T n 22 x → ∃ a : (List S39), (eL e39) a = x ∧ (WL W40) a := dec_slice (by kernel_rfl) dec40
def LT : List Nat := [9, 22, 40]
theorem LT_ok : LT.all (lvl E.T LT) = true := by kernel_rfl
theorem law6 (hp : ∀ (a0 : (List S39)) (a1 : (List S39)) (a2 : ByteArray), (WL W40) a0 → (WL W40) a1 → WStr a2 → ∃ m, f6 m a0 a1 a2 = some true) : ∀ xs, TypedL E.T [22, 22, 9] xs → ∃ n, runV Proofs.Tryd.prog EG n 6 xs = some (.bool true) := by
  intro xs h
  match xs, h with
  | [x0, x1, x2], ⟨⟨n0, h0⟩, ⟨n1, h1⟩, ⟨n2, h2⟩, _⟩ =>
    obtain ⟨a0, rfl, w0⟩ := dec22 n0 x0 h0
    obtain ⟨a1, rfl, w1⟩ := dec22 n1 x1 h1
    obtain ⟨a2, rfl, w2⟩ := dec9 n2 x2 h2
    obtain ⟨m, hm⟩ := hp a0 a1 a2 w0 w1 w2
    exact ⟨_, law_run (xs := [(eL e39) a0, (eL e39) a1, eS a2]) (ok6 m a0 a1 a2 true hm (m + 6) (Nat.le_refl _))⟩
theorem law6s (hp : ∀ (a0 : (List S39)) (a1 : (List S39)) (a2 : ByteArray), (WL W40) a0 → (WL W40) a1 → WStr a2 → UptoL Proofs.Tryd.prog [22, 22, 9] [(eL e39) a0, (eL e39) a1, eS a2] → ∃ m, f6 m a0 a1 a2 = some true) : ∀ xs, TypedL E.T [22, 22, 9] xs → UptoL Proofs.Tryd.prog [22, 22, 9] xs → ∃ n, runV Proofs.Tryd.prog EG n 6 xs = some (.bool true) := by
  intro xs h hz
  match xs, h with
  | [x0, x1, x2], ⟨⟨n0, h0⟩, ⟨n1, h1⟩, ⟨n2, h2⟩, _⟩ =>
    obtain ⟨a0, rfl, w0⟩ := dec22 n0 x0 h0
    obtain ⟨a1, rfl, w1⟩ := dec22 n1 x1 h1
    obtain ⟨a2, rfl, w2⟩ := dec9 n2 x2 h2
    obtain ⟨m, hm⟩ := hp a0 a1 a2 w0 w1 w2 hz
    exact ⟨_, law_run (xs := [(eL e39) a0, (eL e39) a1, eS a2]) (ok6 m a0 a1 a2 true hm (m + 6) (Nat.le_refl _))⟩
end Go.Abs
