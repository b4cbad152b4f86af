import Derived.Test.YthiikobbfpfbkaaDoorWF3
namespace Go.Abs
set_option linter.unusedVariables false
def WI (n : Int) : Prop := -9223372036854775808 ≤ n ∧ n ≤ 9223372036854775807
theorem wf_int {m : Int} (h : (Lit.int .i64 m).wf = true) : WI m := by
  have h : (decide (IntKind.i64.min ≤ m) && decide (m ≤ IntKind.i64.max)) = true := h
  have e1 : IntKind.i64.min = -9223372036854775808 := by decide
  have e2 : IntKind.i64.max = 9223372036854775807 := by decide
  rw [e1, e2, Bool.and_eq_true, decide_eq_true_eq, decide_eq_true_eq] at h
  exact h
def WStr (s : ByteArray) : Prop := s.size ≤ maxLen
def WL {α : Type} (W : α → Prop) (l : List α) : Prop := l.length ≤ maxLen ∧ ∀ a ∈ l, W a
theorem dec_slice {α : Type} {f : α → V} {W : α → Prop} {e t : Nat} (hT : (T t).map (·.kind) = some (.slice e)) (h : ∀ n x, typed T n e x → ∃ a, f a = x ∧ W a) : ∀ n x, typed T n t x → ∃ l : List α, eL f l = x ∧ WL W l := by
  intro n x hx
  obtain ⟨ti, h1, h2⟩ := Option.map_eq_some_iff.1 hT
  cases n with
  | zero => exact hx.elim
  | succ n =>
    simp only [typed, h1, h2] at hx
    obtain ⟨es, rfl, hl, he⟩ := hx
    have : ∀ es : List V, (∀ y ∈ es, typed T n e y) → ∃ l : List α, l.map f = es ∧ ∀ a ∈ l, W a := by
      intro es
      induction es with
      | nil => intro _; exact ⟨[], rfl, fun a h => by cases h⟩
      | cons y r ih =>
        intro hy
        obtain ⟨l, e1, w1⟩ := ih fun z hz => hy z (List.mem_cons_of_mem _ hz)
        obtain ⟨a, e2, w2⟩ := h n y (hy y List.mem_cons_self)
        refine ⟨a :: l, by rw [List.map_cons, e1, e2], fun b hb => ?_⟩
        rcases List.mem_cons.1 hb with rfl | hb
        · exact w2
        · exact w1 b hb
    obtain ⟨l, e1, w1⟩ := this es he
    subst e1
    exact ⟨l, rfl, by simpa using hl, w1⟩
theorem dec3 : ∀ n x, typed T n 3 x → ∃ a : Int, eI a = x ∧ WI a := by
  intro n x h
  cases n with
  | zero => exact h.elim
  | succ n =>
    have h : ∃ m, x = .int .i64 m ∧ (Lit.int .i64 m).wf = true := h
    obtain ⟨m, rfl, hm⟩ := h
    refine ⟨m, rfl, ?_⟩
    exact wf_int hm
theorem dec22 : ∀ n x, typed T n 22 x → ∃ a : (List Int), (eL eI) a = x ∧ (WL WI) a := dec_slice (by kernel_rfl) dec3
inductive WP24 : P24 → Prop where
  | mk (s : S24) (h0 : WI s.fKind) (h1 : (WL WI) s.fLabels) (h2 : s.fSubs.length ≤ maxLen) (g2 : ∀ p ∈ s.fSubs, WP24 p) (h3 : WI s.fLeast) (h4 : WI s.fMost) : WP24 (P24.con s)
def W25 (x : S24) : Prop := WI x.fKind ∧ (WL WI) x.fLabels ∧ (x.fSubs.length ≤ maxLen ∧ ∀ p ∈ x.fSubs, WP24 p) ∧ WI x.fLeast ∧ WI x.fMost
theorem WP24_con {s : S24} (h : W25 s) : WP24 (P24.con s) := by
  obtain ⟨h0, h1, h2, h3, h4⟩ := h
  exact .mk s h0 h1 h2.1 h2.2 h3 h4
theorem dec25 : ∀ n x, typed T n 25 x → ∃ a : S24, e24 a = x ∧ W25 a := by
  intro n
  induction n using Nat.strongRecOn with
  | _ n ih =>
  intro x h
  cases n with
  | zero => exact h.elim
  | succ n =>
    obtain ⟨xs, hx, hh⟩ : ∃ xs : List V, x = .agg (xs.flatMap V.cells) ∧ typedAll (typed T n) [(0, 3), (1, 22), (2, 23), (3, 3), (4, 3)] xs := h
    subst hx
    match xs, hh with
    | [x0, x1, x2, x3, x4], ⟨h0, h1, h2, h3, h4, _⟩ =>
      obtain ⟨a0, rfl, w0⟩ := dec3 n x0 h0
      obtain ⟨a1, rfl, w1⟩ := dec22 n x1 h1
      obtain ⟨a2, rfl, w2⟩ : ∃ l : List P24, (eL ep24) l = x2 ∧ (l.length ≤ maxLen ∧ ∀ p ∈ l, WP24 p) := by
        cases n with
        | zero => exact h2.elim
        | succ n =>
          obtain ⟨es, rfl, hl, he⟩ : ∃ es : List V, x2 = .sl .plain es ∧ es.length ≤ maxLen ∧ ∀ y ∈ es, typed T n 25 y := h2
          have key : ∀ es : List V, (∀ y ∈ es, typed T n 25 y) → ∃ l : List P24, l.map ep24 = es ∧ ∀ p ∈ l, WP24 p := by
            intro es
            induction es with
            | nil => intro _; exact ⟨[], rfl, fun p hp => by cases hp⟩
            | cons y r ih2 =>
              intro hy
              obtain ⟨l, e1, w1⟩ := ih2 fun z hz => hy z (List.mem_cons_of_mem _ hz)
              obtain ⟨a, e2, w2⟩ := ih n (by omega) y (hy y List.mem_cons_self)
              refine ⟨P24.con a :: l, by rw [List.map_cons, e1]; exact congrArg (· :: r) e2, fun p hp => ?_⟩
              rcases List.mem_cons.1 hp with rfl | hp
              · exact WP24_con w2
              · exact w1 p hp
          obtain ⟨l, e1, w1⟩ := key es he
          subst e1
          exact ⟨l, rfl, by simpa using hl, w1⟩
      obtain ⟨a3, rfl, w3⟩ := dec3 n x3 h3
      obtain ⟨a4, rfl, w4⟩ := dec3 n x4 h4
      exact ⟨⟨a0, a1, a2, a3, a4⟩, rfl, w0, w1, w2, w3, w4⟩
def LT : List Nat := [3, 22, 23, 25]
theorem LT_ok : LT.all (lvl E.T LT) = true := by kernel_rfl
theorem law5 (hp : ∀ (a0 : S24) (a1 : (List Int)), W25 a0 → (WL WI) a1 → ∃ m, f5 m a0 a1 = some true) : ∀ xs, TypedL E.T [25, 22] xs → ∃ n, runV Proofs.Tryd.prog EG n 5 xs = some (.bool true) := by
  intro xs h
  match xs, h with
  | [x0, x1], ⟨⟨n0, h0⟩, ⟨n1, h1⟩, _⟩ =>
    obtain ⟨a0, rfl, w0⟩ := dec25 n0 x0 h0
    obtain ⟨a1, rfl, w1⟩ := dec22 n1 x1 h1
    obtain ⟨m, hm⟩ := hp a0 a1 w0 w1
    exact ⟨_, law_run (xs := [e24 a0, (eL eI) a1]) (ok5 m a0 a1 true hm (2 * m + 5) (Nat.le_refl _))⟩
theorem law7 (hp : ∀ (a0 : S24) (a1 : S24) (a2 : (List Int)), W25 a0 → W25 a1 → (WL WI) a2 → ∃ m, f7 m a0 a1 a2 = some true) : ∀ xs, TypedL E.T [25, 25, 22] xs → ∃ n, runV Proofs.Tryd.prog EG n 7 xs = some (.bool true) := by
  intro xs h
  match xs, h with
  | [x0, x1, x2], ⟨⟨n0, h0⟩, ⟨n1, h1⟩, ⟨n2, h2⟩, _⟩ =>
    obtain ⟨a0, rfl, w0⟩ := dec25 n0 x0 h0
    obtain ⟨a1, rfl, w1⟩ := dec25 n1 x1 h1
    obtain ⟨a2, rfl, w2⟩ := dec22 n2 x2 h2
    obtain ⟨m, hm⟩ := hp a0 a1 a2 w0 w1 w2
    exact ⟨_, law_run (xs := [e24 a0, e24 a1, (eL eI) a2]) (ok7 m a0 a1 a2 true hm (2 * m + 5) (Nat.le_refl _))⟩
end Go.Abs
