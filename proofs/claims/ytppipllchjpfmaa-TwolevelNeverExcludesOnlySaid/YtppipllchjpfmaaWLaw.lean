import Derived.Test.YtppipllchjpfmaaWF2
namespace Go.Abs
set_option linter.unusedVariables false
def WI (n : Int) : Prop := -9223372036854775808 ≤ n ∧ n ≤ 9223372036854775807
theorem wf_int {m : Int} (h : (Lit.int .i64 m).wf = true) : WI m := by
  have h : (decide (IntKind.i64.min ≤ m) && decide (m ≤ IntKind.i64.max)) = true := h
  have e1 : IntKind.i64.min = -9223372036854775808 := by decide
  have e2 : IntKind.i64.max = 9223372036854775807 := by decide
  rw [e1, e2, Bool.and_eq_true, decide_eq_true_eq, decide_eq_true_eq] at h
  exact h
def WL {α : Type} (W : α → Prop) (l : List α) : Prop := l.length ≤ maxLen ∧ ∀ a ∈ l, W a
theorem dec_slice {α : Type} {f : α → V} {W : α → Prop} {e t : Nat} (hT : (T t).map (·.kind) = some (.slice e)) (h : ∀ n x, typed T n e x → ∃ a, f a = x ∧ W a) : ∀ n x, typed T n t x → ∃ l : List α, eL f l = x ∧ WL W l := by
  intro n x hx
  obtain ⟨ti, h1, h2⟩ := Option.map_eq_some_iff.1 hT
  cases n with
  | zero => exact hx.elim
  | succ n =>
    simp only [typed, h1, h2] at hx
    obtain ⟨es, rfl, hl, he⟩ := hx
    have : ∀ es : List V, (∀ y ∈ es, typed T n e y) → ∃ l : List α, l.map f = es ∧ ∀ a ∈ l, W a := by
      intro es
      induction es with
      | nil => intro _; exact ⟨[], rfl, fun a h => by cases h⟩
      | cons y r ih =>
        intro hy
        obtain ⟨l, e1, w1⟩ := ih fun z hz => hy z (List.mem_cons_of_mem _ hz)
        obtain ⟨a, e2, w2⟩ := h n y (hy y List.mem_cons_self)
        refine ⟨a :: l, by rw [List.map_cons, e1, e2], fun b hb => ?_⟩
        rcases List.mem_cons.1 hb with rfl | hb
        · exact w2
        · exact w1 b hb
    obtain ⟨l, e1, w1⟩ := this es he
    subst e1
    exact ⟨l, rfl, by simpa using hl, w1⟩
theorem dec3 : ∀ n x, typed T n 3 x → ∃ a : Int, eI a = x ∧ WI a := by
  intro n x h
  cases n with
  | zero => exact h.elim
  | succ n =>
    have h : ∃ m, x = .int .i64 m ∧ (Lit.int .i64 m).wf = true := h
    obtain ⟨m, rfl, hm⟩ := h
    refine ⟨m, rfl, ?_⟩
    exact wf_int hm
def W40 (x : S39) : Prop := WI x.fLexical ∧ WI x.fSurface
theorem dec40 : ∀ n x, typed T n 40 x → ∃ a : S39, e39 a = x ∧ W40 a := by
  intro n x h
  cases n with
  | zero => exact h.elim
  | succ n =>
    obtain ⟨xs, hx, hh⟩ : ∃ xs : List V, x = .agg (xs.flatMap V.cells) ∧ typedAll (typed T n) [(0, 3), (1, 3)] xs := h
    subst hx
    match xs, hh with
    | [x0, x1], ⟨h0, h1, _⟩ =>
      obtain ⟨a0, rfl, w0⟩ := dec3 n x0 h0
      obtain ⟨a1, rfl, w1⟩ := dec3 n x1 h1
      exact ⟨⟨a0, a1⟩, rfl, w0, w1⟩
theorem dec37 : ∀ n x, typed T n 37 x → ∃ a : (List S39), (eL e39) a = x ∧ (WL W40) a := dec_slice (by kernel_rfl) dec40
theorem dec4 : ∀ n x, typed T n 4 x → ∃ a : Bool, eB a = x ∧ True := by
  intro n x h
  cases n with
  | zero => exact h.elim
  | succ n =>
    have h : ∃ b, x = .bool b := h
    obtain ⟨b, rfl⟩ := h
    exact ⟨b, rfl, trivial⟩
def W65 (x : S64) : Prop := (WL W40) x.fLeft ∧ (WL W40) x.fRight ∧ (fun _ : Bool => True) x.fBegin ∧ (fun _ : Bool => True) x.fEnd
theorem dec65 : ∀ n x, typed T n 65 x → ∃ a : S64, e64 a = x ∧ W65 a := by
  intro n x h
  cases n with
  | zero => exact h.elim
  | succ n =>
    obtain ⟨xs, hx, hh⟩ : ∃ xs : List V, x = .agg (xs.flatMap V.cells) ∧ typedAll (typed T n) [(0, 37), (1, 37), (2, 4), (3, 4)] xs := h
    subst hx
    match xs, hh with
    | [x0, x1, x2, x3], ⟨h0, h1, h2, h3, _⟩ =>
      obtain ⟨a0, rfl, w0⟩ := dec37 n x0 h0
      obtain ⟨a1, rfl, w1⟩ := dec37 n x1 h1
      obtain ⟨a2, rfl, w2⟩ := dec4 n x2 h2
      obtain ⟨a3, rfl, w3⟩ := dec4 n x3 h3
      exact ⟨⟨a0, a1, a2, a3⟩, rfl, w0, w1, w2, w3⟩
theorem dec41 : ∀ n x, typed T n 41 x → ∃ a : (List S64), (eL e64) a = x ∧ (WL W65) a := dec_slice (by kernel_rfl) dec65
def W43 (x : S42) : Prop := WI x.fKind ∧ W40 x.fPair ∧ (WL W65) x.fContexts
theorem dec43 : ∀ n x, typed T n 43 x → ∃ a : S42, e42 a = x ∧ W43 a := by
  intro n x h
  cases n with
  | zero => exact h.elim
  | succ n =>
    obtain ⟨xs, hx, hh⟩ : ∃ xs : List V, x = .agg (xs.flatMap V.cells) ∧ typedAll (typed T n) [(0, 3), (1, 40), (3, 41)] xs := h
    subst hx
    match xs, hh with
    | [x0, x1, x2], ⟨h0, h1, h2, _⟩ =>
      obtain ⟨a0, rfl, w0⟩ := dec3 n x0 h0
      obtain ⟨a1, rfl, w1⟩ := dec40 n x1 h1
      obtain ⟨a2, rfl, w2⟩ := dec41 n x2 h2
      exact ⟨⟨a0, a1, a2⟩, rfl, w0, w1, w2⟩
def LT : List Nat := [3, 4, 37, 40, 41, 43, 65]
theorem LT_ok : LT.all (lvl E.T LT) = true := by kernel_rfl
theorem law9 (hp : ∀ (a0 : S42) (a1 : (List S39)), W43 a0 → (WL W40) a1 → ∃ m, f9 m a0 a1 = some true) : ∀ xs, TypedL E.T [43, 37] xs → ∃ n, runV Proofs.Try.prog E n 9 xs = some (.bool true) := by
  intro xs h
  match xs, h with
  | [x0, x1], ⟨⟨n0, h0⟩, ⟨n1, h1⟩, _⟩ =>
    obtain ⟨a0, rfl, w0⟩ := dec43 n0 x0 h0
    obtain ⟨a1, rfl, w1⟩ := dec37 n1 x1 h1
    obtain ⟨m, hm⟩ := hp a0 a1 w0 w1
    exact ⟨_, law_run (ok9 m a0 a1 true hm (m + 7) (Nat.le_refl _))⟩
end Go.Abs
