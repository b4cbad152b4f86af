import Derived.Test.YtgbhimkbfaebeaaGreatDoorWF3
namespace Go.Abs
set_option linter.unusedVariables false
set_option linter.unusedSimpArgs false
set_option linter.unnecessarySimpa false
def WI (n : Int) : Prop := -9223372036854775808 ≤ n ∧ n ≤ 9223372036854775807
theorem wf_int {m : Int} (h : (Lit.int .i64 m).wf = true) : WI m := by
 have h : (decide (IntKind.i64.min ≤ m) && decide (m ≤ IntKind.i64.max)) = true := h
 have e1 : IntKind.i64.min = -9223372036854775808 := by decide
 have e2 : IntKind.i64.max = 9223372036854775807 := by decide
 rw [e1, e2, Bool.and_eq_true, decide_eq_true_eq, decide_eq_true_eq] at h
 exact h
def WStr (s : ByteArray) : Prop := s.size ≤ maxLen
def WL {α : Type} (W : α → Prop) (l : List α) : Prop := l.length ≤ maxLen ∧ ∀ a ∈ l, W a
theorem dec_slice {α : Type} {f : α → V} {W : α → Prop} {e t : Nat} (hT : (T t).map (·.kind) = some (.slice e)) (h : ∀ n x, typed T n e x → ∃ a, f a = x ∧ W a) : ∀ n x, typed T n t x → ∃ l : List α, eL f l = x ∧ WL W l := by
 intro n x hx
 obtain ⟨ti, h1, h2⟩ := Option.map_eq_some_iff.1 hT
 cases n with
 | zero => exact hx.elim
 | succ n =>
  simp only [typed, h1, h2] at hx
  obtain ⟨es, rfl, hl, he⟩ := hx
  have : ∀ es : List V, (∀ y ∈ es, typed T n e y) → ∃ l : List α, l.map f = es ∧ ∀ a ∈ l, W a := by
   intro es
   induction es with
   | nil => intro _; exact ⟨[], rfl, fun a h => by cases h⟩
   | cons y r ih =>
    intro hy
    obtain ⟨l, e1, w1⟩ := ih fun z hz => hy z (List.mem_cons_of_mem _ hz)
    obtain ⟨a, e2, w2⟩ := h n y (hy y List.mem_cons_self)
    refine ⟨a :: l, by rw [List.map_cons, e1, e2], fun b hb => ?_⟩
    rcases List.mem_cons.1 hb with rfl | hb
    ·exact w2
    ·exact w1 b hb
  obtain ⟨l, e1, w1⟩ := this es he
  subst e1
  exact ⟨l, rfl, by simpa using hl, w1⟩
theorem dec9 : ∀ n x, typed T n 9 x → ∃ a : ByteArray, eS a = x ∧ WStr a := by
 intro n x h
 cases n with
 | zero => exact h.elim
 | succ n =>
  have h : ∃ b, x = .str b ∧ b.size ≤ maxLen := h
  obtain ⟨b, rfl, hb⟩ := h
  exact ⟨b, rfl, hb⟩
theorem dec29 : ∀ n x, typed T n 29 x → ∃ a : (List ByteArray), (eL eS) a = x ∧ (WL WStr) a := dec_slice (by kernel_rfl) dec9
theorem dec3 : ∀ n x, typed T n 3 x → ∃ a : Int, eI a = x ∧ WI a := by
 intro n x h
 cases n with
 | zero => exact h.elim
 | succ n =>
  have h : ∃ m, x = .int .i64 m ∧ (Lit.int .i64 m).wf = true := h
  obtain ⟨m, rfl, hm⟩ := h
  refine ⟨m, rfl, ?_⟩
  exact wf_int hm
def W47 (x : S46) : Prop := WStr x.fBase ∧ WStr x.fForm ∧ (WL WStr) x.fTags ∧ WI x.fNext ∧ WI x.fWeight
theorem dec47 : ∀ n x, typed T n 47 x → ∃ a : S46, e46 a = x ∧ W47 a := by
 intro n x h
 cases n with
 | zero => exact h.elim
 | succ n =>
  obtain ⟨xs, hx, hh⟩ : ∃ xs : List V, x = .agg (xs.flatMap V.cells) ∧ typedAll (typed T n) [(0, 9), (1, 9), (2, 29), (3, 3), (4, 3)] xs := h
  subst hx
  match xs, hh with
  | [x0, x1, x2, x3, x4], ⟨h0, h1, h2, h3, h4, _⟩ =>
   obtain ⟨a0, rfl, w0⟩ := dec9 n x0 h0
   obtain ⟨a1, rfl, w1⟩ := dec9 n x1 h1
   obtain ⟨a2, rfl, w2⟩ := dec29 n x2 h2
   obtain ⟨a3, rfl, w3⟩ := dec3 n x3 h3
   obtain ⟨a4, rfl, w4⟩ := dec3 n x4 h4
   exact ⟨⟨a0, a1, a2, a3, a4⟩, rfl, w0, w1, w2, w3, w4⟩
theorem dec43 : ∀ n x, typed T n 43 x → ∃ a : (List S46), (eL e46) a = x ∧ (WL W47) a := dec_slice (by kernel_rfl) dec47
def W45 (x : S44) : Prop := WStr x.fName ∧ (WL W47) x.fItems
theorem dec45 : ∀ n x, typed T n 45 x → ∃ a : S44, e44 a = x ∧ W45 a := by
 intro n x h
 cases n with
 | zero => exact h.elim
 | succ n =>
  obtain ⟨xs, hx, hh⟩ : ∃ xs : List V, x = .agg (xs.flatMap V.cells) ∧ typedAll (typed T n) [(0, 9), (1, 43)] xs := h
  subst hx
  match xs, hh with
  | [x0, x1], ⟨h0, h1, _⟩ =>
   obtain ⟨a0, rfl, w0⟩ := dec9 n x0 h0
   obtain ⟨a1, rfl, w1⟩ := dec43 n x1 h1
   exact ⟨⟨a0, a1⟩, rfl, w0, w1⟩
theorem dec22 : ∀ n x, typed T n 22 x → ∃ a : (List S44), (eL e44) a = x ∧ (WL W45) a := dec_slice (by kernel_rfl) dec45
def W24 (x : S23) : Prop := (WL W45) x.fClasses
theorem dec24 : ∀ n x, typed T n 24 x → ∃ a : S23, e23 a = x ∧ W24 a := by
 intro n x h
 cases n with
 | zero => exact h.elim
 | succ n =>
  obtain ⟨xs, hx, hh⟩ : ∃ xs : List V, x = .agg (xs.flatMap V.cells) ∧ typedAll (typed T n) [(0, 22)] xs := h
  subst hx
  match xs, hh with
  | [x0], ⟨h0, _⟩ =>
   obtain ⟨a0, rfl, w0⟩ := dec22 n x0 h0
   exact ⟨⟨a0⟩, rfl, w0⟩
def LT : List Nat := [3, 9, 22, 24, 29, 43, 45, 47]
theorem LT_ok : LT.all (lvl E.T LT) = true := by kernel_rfl
theorem law3 (hp : ∀ (a0 : S23), W24 a0 → ∃ m, f3 m a0 = some true) : ∀ xs, TypedL E.T [24] xs → ∃ n, runV Proofs.Tryz.prog EG n 3 xs = some (.bool true) := by
 intro xs h
 match xs, h with
 | [x0], ⟨⟨n0, h0⟩, _⟩ =>
  obtain ⟨a0, rfl, w0⟩ := dec24 n0 x0 h0
  obtain ⟨m, hm⟩ := hp a0 w0
  exact ⟨_, law_run (xs := [e23 a0]) (ok3 m a0 true hm (2 * m + 8) (Nat.le_refl _))⟩
end Go.Abs
