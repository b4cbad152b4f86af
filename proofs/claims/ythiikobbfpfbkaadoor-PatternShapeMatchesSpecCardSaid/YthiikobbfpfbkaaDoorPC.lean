/-
  PATTERNS, the plain laws: what Validate has looked at.
-/
import Derived.Test.YthiikobbfpfbkaaDoorPB
namespace Go.Abs
open Go.Sort Go.Proofs
set_option linter.unusedVariables false
set_option maxRecDepth 100000

/-! ### patterns as elements of lists -/
theorem P24.ext {a b : P24} (h : ep24 a = ep24 b) : a = b := Subtype.ext h
theorem P24.con_vw (p : P24) : P24.con p.vw = p := P24.ext (ep24_vw p).symm
theorem eI_inj : ∀ {a b : List Int}, a.map eI = b.map eI → a = b
  | [], [], _ => rfl
  | x :: r, y :: s, h => by
    simp only [List.map_cons, List.cons.injEq] at h
    have h1 : x = y := by have := h.1; unfold eI at this; injection this
    rw [h1, eI_inj h.2]
  | [], _ :: _, h => by cases h
  | _ :: _, [], h => by cases h
theorem ep24_inj : ∀ {a b : List P24}, a.map ep24 = b.map ep24 → a = b
  | [], [], _ => rfl
  | x :: r, y :: s, h => by
    simp only [List.map_cons, List.cons.injEq] at h
    rw [P24.ext h.1, ep24_inj h.2]
  | [], _ :: _, h => by cases h
  | _ :: _, [], h => by cases h
theorem e24_inj {a b : S24} (h : e24 a = e24 b) : a = b := by
  obtain ⟨a1, a2, a3, a4, a5⟩ := a
  obtain ⟨b1, b2, b3, b4, b5⟩ := b
  unfold e24 vI vP at h
  simp only [V.agg.injEq, List.cons.injEq, V.int.injEq, true_and, V.sl.injEq, and_true] at h
  obtain ⟨rfl, h2, h3, rfl, rfl⟩ := h
  rw [eI_inj h2, ep24_inj h3]
theorem P24.vw_con (s : S24) : (P24.con s).vw = s := e24_inj (ep24_vw (P24.con s)).symm
/-! ### a pattern that is right -/
def F2 {α β : Type} (R : α → β → Prop) : List α → List β → Prop
  | [], [] => True
  | x :: r, y :: s => R x y ∧ F2 R r s
  | _, _ => False
def okC (x : Int) : Prop := 1 ≤ x ∧ x ≤ 1114111 ∧ (x < 55296 ∨ 57343 < x)
def LabOk (l : List Int) : Prop := l.length ≤ 300 ∧ (∀ x ∈ l, okC x) ∧ l.Pairwise (· < ·)
def OkN (p : S24) : Prop :=
  LabOk p.fLabels ∧ (p.fKind = 2 ↔ p.fLabels ≠ []) ∧
  ((p.fKind = 1 ∨ p.fKind = 2) ∧ p.fSubs.length = 0 ∧ p.fLeast = 0 ∧ p.fMost = 0 ∨
   (p.fKind = 3 ∨ p.fKind = 4) ∧ 2 ≤ p.fSubs.length ∧ p.fLeast = 0 ∧ p.fMost = 0 ∨
   p.fKind = 5 ∧ p.fSubs.length = 1 ∧ 0 ≤ p.fLeast ∧ p.fLeast ≤ 9 ∧ -1 ≤ p.fMost ∧ p.fMost ≤ 9 ∧ (0 ≤ p.fMost → p.fLeast ≤ p.fMost) ∨
   (p.fKind = 6 ∨ p.fKind = 7) ∧ p.fSubs.length = 2 ∧ p.fLeast = 0 ∧ p.fMost = 0)
/-- right down to a depth, with so many nodes -/
def Gd : Nat → S24 → Nat → Prop
  | 0, _, _ => False
  | r + 1, p, n => OkN p ∧ ∃ ns, F2 (fun q k => Gd r (P24.vw q) k) p.fSubs ns ∧ n = 1 + ns.sum
/-! ### the labels -/
theorem f37_eq (m : Nat) (x : Int) : ∃ b, f37 m x = some b ∧ (b = true ↔ okC x) := by
  unfold f37 f37_r2 f37_r1
  refine ⟨_, rfl, ?_⟩
  simp only [Bool.and_eq_true, Bool.or_eq_true, decide_eq_true_eq, okC]
  omega
theorem lab_loop (m : Nat) (K : Rec21) (k : Nat) (hk : k < 1000) (p : S24) (hl : p.fLabels.length ≤ 300) : ∀ (M i : Nat), i ≤ p.fLabels.length → p.fLabels.length < M + i →
    (∀ x ∈ p.fLabels.take i, okC x) → (p.fLabels.take i).Pairwise (· < ·) →
    ∃ o, iter (fun (y : Int) => f21_B2 m K (⟨(k : Int)⟩ : S45) p y) M (i : Int) = some o ∧
      (∀ z, o = .inr z → (∀ x ∈ p.fLabels, okC x) ∧ p.fLabels.Pairwise (· < ·)) ∧ (∀ r, o = .inl r → r.1.fCode ≠ 0 ∧ r.2 = (⟨((k + 1 : Nat) : Int)⟩ : S45))
  | 0, i, h1, h2, _, _ => by omega
  | M + 1, i, h1, h2, h3, h4 => by
    have hwk : w64 ((k : Int) + 1) = ((k + 1 : Nat) : Int) := by rw [w64_id ⟨by omega, by omega⟩]; omega
    have hwi : w64 ((i : Int) + 1) = ((i + 1 : Nat) : Int) := by rw [w64_id ⟨by omega, by omega⟩]; omega
    unfold iter f21_B2
    rcases Nat.lt_or_ge i p.fLabels.length with hlt | hge
    · have hx := List.getElem?_eq_getElem hlt
      have e1 : idx p.fLabels (i : Int) = some p.fLabels[i] := by simp [idx, hx]
      obtain ⟨b, hb1, hb2⟩ := f37_eq m p.fLabels[i]
      rw [decide_eq_true (by omega : (i : Int) < (p.fLabels.length : Int)), cnd_true, e1, bnd_some', hb1, bnd_some']
      cases b with
      | false =>
        refine ⟨_, rfl, ⟨fun z hz => (by cases hz), fun r hr => ?_⟩⟩
        cases hr
        exact ⟨(by simp), by simp only [hwk]⟩
      | true =>
        have hok := hb2.1 rfl
        have take1 : p.fLabels.take (i + 1) = p.fLabels.take i ++ [p.fLabels[i]] := by rw [List.take_add_one, hx]; rfl
        have next : (∀ y ∈ p.fLabels.take i, y < p.fLabels[i]) → ∃ o, iter (fun (y : Int) => f21_B2 m K (⟨(k : Int)⟩ : S45) p y) M (w64 ((i : Int) + 1)) = some o ∧
            (∀ z, o = .inr z → (∀ x ∈ p.fLabels, okC x) ∧ p.fLabels.Pairwise (· < ·)) ∧ (∀ r, o = .inl r → r.1.fCode ≠ 0 ∧ r.2 = (⟨((k + 1 : Nat) : Int)⟩ : S45)) := by
          intro hlast
          rw [hwi]
          refine lab_loop m K k hk p hl M (i + 1) hlt (by omega) (fun x hx' => ?_) ?_
          · rw [take1, List.mem_append] at hx'
            rcases hx' with hx' | hx'
            · exact h3 x hx'
            · rw [List.mem_singleton.1 hx']; exact hok
          · rw [take1, List.pairwise_append]
            exact ⟨h4, List.pairwise_singleton _ _, fun a ha b hb => by rw [List.mem_singleton.1 hb]; exact hlast a ha⟩
        rw [Bool.not_true, cnd_false]
        by_cases h0 : i = 0
        · subst h0
          rw [decide_eq_false (by omega : ¬ (((0 : Nat) : Int) > 0)), cnd_false, bnd_some']
          unfold f21_r1
          rw [cnd_false]
          exact next fun y hy => by simp at hy
        · obtain ⟨j, rfl⟩ : ∃ j, i = j + 1 := ⟨i - 1, by omega⟩
          have e0 : w64 (((j + 1 : Nat) : Int) - 1) = (j : Int) := by rw [w64_id ⟨by omega, by omega⟩]; omega
          have hj : j < p.fLabels.length := by omega
          have e2 : idx p.fLabels (j : Int) = some p.fLabels[j] := by simp [idx, List.getElem?_eq_getElem hj]
          rw [decide_eq_true (by omega : (((j + 1 : Nat) : Int) > 0)), cnd_true, e0, e2, bnd_some', bnd_some']
          unfold f21_r1
          by_cases hc : p.fLabels[j] < p.fLabels[j + 1]
          · rw [decide_eq_false (by omega : ¬ (p.fLabels[j] ≥ p.fLabels[j + 1])), cnd_false]
            refine next fun y hy => ?_
            have takej : p.fLabels.take (j + 1) = p.fLabels.take j ++ [p.fLabels[j]] := by rw [List.take_add_one, List.getElem?_eq_getElem hj]; rfl
            rw [takej, List.mem_append] at hy
            rw [takej, List.pairwise_append] at h4
            rcases hy with hy | hy
            · have := h4.2.2 y hy _ List.mem_cons_self
              omega
            · rw [List.mem_singleton.1 hy]; exact hc
          · rw [decide_eq_true (by omega : p.fLabels[j] ≥ p.fLabels[j + 1]), cnd_true]
            refine ⟨_, rfl, ⟨fun z hz => (by cases hz), fun r hr => ?_⟩⟩
            cases hr
            exact ⟨(by simp), by simp only [hwk]⟩
    · have : i = p.fLabels.length := by omega
      subst this
      rw [decide_eq_false (by omega), cnd_false]
      refine ⟨_, rfl, ⟨fun z hz => ?_, fun r hr => nomatch hr⟩⟩
      rw [List.take_length] at h3 h4
      exact ⟨h3, h4⟩
/-! ### the parts -/
def Res (k : Nat) (P : Nat → Prop) (o : S27 × S45) : Prop := (o.1 = (⟨0, 0⟩ : S27) ∧ ∃ k' : Nat, o.2 = (⟨(k' : Int)⟩ : S45) ∧ k < k' ∧ k' ≤ 200 ∧ P (k' - k)) ∨ o.1.fCode ≠ 0
theorem sub_loop (m : Nat) (K : Rec21) (r : Nat) (p : S24) (d : Int) (hd : 0 ≤ d ∧ d ≤ 40)
    (hK : ∀ (q : S24) (k : Nat), k ≤ 200 → ∃ o, K.r21 (⟨(k : Int)⟩ : S45) q (d + 1) = some o ∧ Res k (Gd r q) o) : ∀ (M i k : Nat), i ≤ p.fSubs.length → i ≤ k → k ≤ 200 → 201 - k < M →
    ∃ o, iter (fun (y : Int × Int) => f21_B3 m K p d y.1 y.2) M ((i : Int), (k : Int)) = some o ∧
      (∀ z, o = .inr z → ∃ ns k', z.2 = ((k' : Nat) : Int) ∧ k ≤ k' ∧ k' ≤ 200 ∧ F2 (fun q n => Gd r (P24.vw q) n) (p.fSubs.drop i) ns ∧ k' = k + ns.sum) ∧ (∀ x, o = .inl x → x.1.fCode ≠ 0)
  | 0, i, k, _, _, _, h => by omega
  | M + 1, i, k, h1, hik, h2, h3 => by
    have hwd : w64 (d + 1) = d + 1 := w64_id ⟨by omega, by omega⟩
    unfold iter f21_B3
    dsimp only
    rw [hwd]
    rcases Nat.lt_or_ge i p.fSubs.length with hlt | hge
    · have hx := List.getElem?_eq_getElem hlt
      have e1 : idx p.fSubs (i : Int) = some p.fSubs[i] := by simp [idx, hx]
      obtain ⟨⟨f, c⟩, g1, g2⟩ := hK p.fSubs[i].vw k h2
      rw [decide_eq_true (by omega : (i : Int) < (p.fSubs.length : Int)), cnd_true, e1, bnd_some', g1, bnd_some']
      rcases g2 with ⟨rfl, k', rfl, g3, g4, g5⟩ | g2
      · have : (!(((⟨0, 0⟩ : S27).fCode == 0) && (((⟨0, 0⟩ : S27).fIndex == 0) && true))) = false := rfl
        rw [this, cnd_false]
        have hi : (i : Int) + 1 = ((i + 1 : Nat) : Int) := by omega
        have hwi : w64 ((i : Int) + 1) = ((i + 1 : Nat) : Int) := by rw [w64_id ⟨by omega, by omega⟩]; omega
        obtain ⟨o, q1, q2, q3⟩ := sub_loop m K r p d hd hK M (i + 1) k' hlt (by omega) g4 (by omega)
        refine ⟨o, ?_, fun z hz => ?_, q3⟩
        · show iter _ M (w64 ((i : Int) + 1), (k' : Int)) = _
          rw [hwi]
          unfold f21_B3 at q1
          rw [hwd] at q1
          exact q1
        · obtain ⟨ns, k2, w1, w2, w3, w4, w5⟩ := q2 z hz
          refine ⟨(k' - k) :: ns, k2, w1, by omega, w3, ?_, by rw [List.sum_cons]; omega⟩
          rw [List.drop_eq_getElem_cons hlt]
          exact ⟨g5, w4⟩
      · have : (!((f.fCode == 0) && ((f.fIndex == 0) && true))) = true := by
          have : (f.fCode == 0) = false := by simpa using g2
          rw [this]; rfl
        rw [this, cnd_true]
        refine ⟨_, rfl, ⟨fun z hz => (by cases hz), fun x hx => ?_⟩⟩
        cases hx
        exact g2
    · have : i = p.fSubs.length := by omega
      subst this
      rw [decide_eq_false (by omega), cnd_false]
      refine ⟨_, rfl, ⟨fun z hz => ?_, fun x hx => (by cases hx)⟩⟩
      cases hz
      refine ⟨[], k, rfl, Nat.le_refl _, h2, ?_, by simp⟩
      rw [List.drop_length]
      trivial
theorem nz {k : Nat} {c : Int} (h : c ≠ 0) (P : Nat → Prop) (x : Int) (y : S45) : Res k P ((⟨c, x⟩ : S27), y) := .inr h
theorem chk (m : Nat) (hm : 1000 ≤ m) : ∀ (r R : Nat) (d : Int) (k : Nat) (p : S24), r < R → d + r = 41 → 0 ≤ d → k ≤ 200 → ∃ o, (K21 m R).r21 (⟨(k : Int)⟩ : S45) p d = some o ∧ Res k (Gd r p) o
  | r, 0, d, k, p, h, _, _, _ => by omega
  | 0, R + 1, d, k, p, h1, h2, h3, h4 => by
    have e : b21 m (K21 m R) (⟨(k : Int)⟩ : S45) p d = some ((⟨2, (k : Int)⟩ : S27), (⟨w64 ((k : Int) + 1)⟩ : S45)) := by
      unfold b21 f21_r19
      have : decide (d > 40) = true := decide_eq_true (by omega)
      rw [this, Bool.or_true, cnd_true]
      rfl
    exact ⟨_, e, nz (by decide) _ _ _⟩
  | r + 1, R + 1, d, k, p, h1, h2, h3, h4 => by
    have hwk : w64 ((k : Int) + 1) = ((k + 1 : Nat) : Int) := by rw [w64_id ⟨by omega, by omega⟩]; omega
    show ∃ o, b21 m (K21 m R) (⟨(k : Int)⟩ : S45) p d = some o ∧ _
    unfold b21
    by_cases hk : k + 1 > 200
    · have : decide (w64 ((⟨(k : Int)⟩ : S45).fNodes + 1) > 200) = true := decide_eq_true (by show w64 ((k : Int) + 1) > 200; rw [hwk]; omega)
      rw [this, Bool.true_or]
      exact ⟨_, rfl, nz (by decide) _ _ _⟩
    · have e1 : decide (w64 ((⟨(k : Int)⟩ : S45).fNodes + 1) > 200) = false := decide_eq_false (by show ¬ w64 ((k : Int) + 1) > 200; rw [hwk]; omega)
      have e2 : decide (d > 40) = false := decide_eq_false (by omega)
      rw [e1, e2, Bool.or_false]
      -- the loops
      have subs : ∀ (h : OkN p), ∃ o, f21_j4 m (K21 m R) (⟨(k : Int)⟩ : S45) p d = some o ∧ Res k (Gd (r + 1) p) o := by
        intro hok
        unfold f21_j4
        show ∃ o, brk (iter _ m (0, w64 ((k : Int) + 1))) _ _ = _ ∧ _
        rw [hwk]
        obtain ⟨o, q1, q2, q3⟩ := sub_loop m (K21 m R) r p d ⟨h3, by omega⟩ (fun q k' hk' => chk m hm r R (d + 1) k' q (by omega) (by omega) (by omega) hk') m 0 (k + 1) (Nat.zero_le _) (Nat.zero_le _) (by omega) (by omega)
        have q1 : iter (fun (y : Int × Int) => f21_B3 m (K21 m R) p d y.1 y.2) m (0, ((k + 1 : Nat) : Int)) = some o := q1
        rw [q1]
        cases o with
        | inl x => exact ⟨x, rfl, .inr (q3 x rfl)⟩
        | inr z =>
          obtain ⟨ns, k', w1, w2, w3, w4, w5⟩ := q2 z rfl
          refine ⟨_, rfl, .inl ⟨rfl, k', by show (⟨z.2⟩ : S45) = _; rw [w1], by omega, w3, hok, ns, by simpa using w4, by omega⟩⟩
      have labs : ∀ c : Int, ((p.fSubs.length : Int) = c) → (p.fKind = 2 ↔ p.fLabels ≠ []) → p.fLabels.length ≤ 300 → (p.fKind ≠ 5 → p.fLeast = 0 → p.fMost = 0 → LabOk p.fLabels → OkN p) →
          (p.fKind = 5 → 0 ≤ p.fLeast → p.fLeast ≤ 9 → -1 ≤ p.fMost → p.fMost ≤ 9 → (0 ≤ p.fMost → p.fLeast ≤ p.fMost) → LabOk p.fLabels → OkN p) →
          ∃ o, f21_r10 m (K21 m R) (⟨(k : Int)⟩ : S45) p d false = some o ∧ Res k (Gd (r + 1) p) o := by
        intro c hc hset hlen hA hB
        unfold f21_r10
        rw [cnd_false]
        obtain ⟨o, q1, q2, q3⟩ := lab_loop m (K21 m R) k (by omega) p hlen m 0 (Nat.zero_le _) (by omega) (by simp) (by simp)
        have q1 : iter (fun (y : Int) => f21_B2 m (K21 m R) (⟨(k : Int)⟩ : S45) p y) m 0 = some o := q1
        rw [q1]
        cases o with
        | inl x => exact ⟨x, rfl, .inr (q3 x rfl).1⟩
        | inr z =>
          have hlab : LabOk p.fLabels := ⟨hlen, q2 z rfl⟩
          rw [brk_inr]
          by_cases h5 : p.fKind = 5
          · have e5 : (p.fKind == 5) = true := by simpa using h5
            rw [e5, cnd_true]
            unfold f21_r8 f21_r7 f21_r6
            by_cases hr : p.fLeast < 0 ∨ p.fLeast > 9 ∨ p.fMost < -1 ∨ p.fMost > 9
            · have : (((decide (p.fLeast < 0) || decide (p.fLeast > 9)) || decide (p.fMost < -1)) || decide (p.fMost > 9)) = true := by
                simp only [Bool.or_eq_true, decide_eq_true_eq]; omega
              rw [this, cnd_true]
              exact ⟨_, rfl, nz (by decide) _ _ _⟩
            · have : (((decide (p.fLeast < 0) || decide (p.fLeast > 9)) || decide (p.fMost < -1)) || decide (p.fMost > 9)) = false := by
                simp only [Bool.or_eq_false_iff, decide_eq_false_iff_not]; omega
              rw [this, cnd_false]
              unfold f21_r5
              by_cases ho : 0 ≤ p.fMost ∧ p.fMost < p.fLeast
              · have : (decide (p.fMost ≥ 0) && decide (p.fMost < p.fLeast)) = true := by simp only [Bool.and_eq_true, decide_eq_true_eq]; omega
                rw [this, cnd_true]
                exact ⟨_, rfl, nz (by decide) _ _ _⟩
              · have : (decide (p.fMost ≥ 0) && decide (p.fMost < p.fLeast)) = false := by
                  rw [Bool.and_eq_false_iff, decide_eq_false_iff_not, decide_eq_false_iff_not]; omega
                rw [this, cnd_false]
                exact subs (hB h5 (by omega) (by omega) (by omega) (by omega) (by omega) hlab)
          · have e5 : (p.fKind == 5) = false := by simpa using h5
            rw [e5, cnd_false]
            unfold f21_r9
            by_cases hz : p.fLeast = 0 ∧ p.fMost = 0
            · have : ((p.fLeast != 0) || (p.fMost != 0)) = false := by simp [hz.1, hz.2]
              rw [this, cnd_false]
              exact subs (hA h5 hz.1 hz.2 hlab)
            · have : ((p.fLeast != 0) || (p.fMost != 0)) = true := by
                simp only [Bool.or_eq_true, bne_iff_ne, ne_eq]; omega
              rw [this, cnd_true]
              exact ⟨_, rfl, nz (by decide) _ _ _⟩
      have counts : ∀ c : Int, (((p.fSubs.length : Int) = c) → (p.fKind = 2 ↔ p.fLabels ≠ []) → p.fLabels.length ≤ 300 → ∃ o, f21_r10 m (K21 m R) (⟨(k : Int)⟩ : S45) p d false = some o ∧ Res k (Gd (r + 1) p) o) → ∀ b,
          ∃ o, f21_j12 m (K21 m R) (⟨(k : Int)⟩ : S45) p d c b = some o ∧ Res k (Gd (r + 1) p) o := by
        intro c hgo b
        unfold f21_j12 f21_r11
        by_cases hbad : (((((p.fSubs.length : Int) != c) || (!((p.fKind == 2) == (decide ((p.fLabels.length : Int) > 0))))) || decide ((p.fLabels.length : Int) > 300))) = true
        · rw [hbad]
          unfold f21_r10
          exact ⟨_, rfl, nz (by decide) _ _ _⟩
        · have hb := Bool.eq_false_iff.2 hbad
          rw [hb]
          simp only [Bool.or_eq_false_iff, bne_eq_false_iff_eq, Bool.not_eq_false', decide_eq_false_iff_not, beq_iff_eq] at hb
          obtain ⟨⟨c1, c2⟩, c3⟩ := hb
          refine hgo c1 ?_ (by omega)
          have : (p.fKind == 2) = decide ((p.fLabels.length : Int) > 0) := c2
          constructor
          · intro h
            have h2 : decide ((p.fLabels.length : Int) > 0) = true := by rw [← this]; simpa using h
            intro h0
            rw [h0] at h2
            cases h2
          · intro h
            have h2 : decide ((p.fLabels.length : Int) > 0) = true := decide_eq_true (by have := List.length_pos_iff.2 h; omega)
            rw [h2] at this
            simpa using this
      -- the kinds
      have kinds : ∀ z : Int, p.fKind = z → ((p.fKind == z) = true) := fun z h => by simpa using h
      have nk : ∀ z : Int, p.fKind ≠ z → ((p.fKind == z) = false) := fun z h => by simpa using h
      have goA : ∀ c : Int, (((p.fSubs.length : Int) = c) → (p.fKind = 2 ↔ p.fLabels ≠ []) → p.fKind ≠ 5 → p.fLeast = 0 → p.fMost = 0 → LabOk p.fLabels → OkN p) → p.fKind ≠ 5 → ∀ b, ∃ o, f21_j12 m (K21 m R) (⟨(k : Int)⟩ : S45) p d c b = some o ∧ Res k (Gd (r + 1) p) o := by
        intro c hA h5
        exact counts c fun c1 c2 c3 => labs c c1 c2 c3 (fun g1 g2 g3 g4 => hA c1 c2 g1 g2 g3 g4) (fun h => absurd h h5)
      unfold f21_r19
      rw [cnd_false]
      by_cases k1 : p.fKind = 1
      · rw [kinds 1 k1, cnd_true]
        exact goA 0 (fun c1 c2 _ g2 g3 g4 => ⟨g4, c2, .inl ⟨.inl k1, by omega, g2, g3⟩⟩) (by omega) true
      rw [nk 1 k1, cnd_false]
      by_cases k2 : p.fKind = 2
      · rw [kinds 2 k2]
        exact goA 0 (fun c1 c2 _ g2 g3 g4 => ⟨g4, c2, .inl ⟨.inr k2, by omega, g2, g3⟩⟩) (by omega) true
      rw [nk 2 k2]
      unfold f21_j18
      rw [cnd_false]
      have two : (p.fKind = 3 ∨ p.fKind = 4) → ∃ o, f21_j14 m (K21 m R) (⟨(k : Int)⟩ : S45) p d false (if (p.fSubs.length : Int) > 2 then (p.fSubs.length : Int) else 2) = some o ∧ Res k (Gd (r + 1) p) o := by
        intro h34
        refine goA _ (fun c1 c2 _ g2 g3 g4 => ⟨g4, c2, .inr (.inl ⟨h34, ?_, g2, g3⟩)⟩) (by omega) false
        split at c1 <;> omega
      by_cases k3 : p.fKind = 3
      · rw [kinds 3 k3, cnd_true]
        exact two (.inl k3)
      rw [nk 3 k3, cnd_false]
      by_cases k4 : p.fKind = 4
      · rw [kinds 4 k4]
        exact two (.inr k4)
      rw [nk 4 k4]
      unfold f21_j17
      rw [cnd_false]
      by_cases k5 : p.fKind = 5
      · rw [kinds 5 k5, cnd_true]
        exact counts 1 (fun c1 c2 c3 => labs 1 c1 c2 c3 (fun h => absurd k5 h) (fun _ g1 g2 g3 g4 g5 g6 => ⟨g6, c2, .inr (.inr (.inl ⟨k5, by omega, g1, g2, g3, g4, g5⟩))⟩)) false
      rw [nk 5 k5, cnd_false]
      by_cases k6 : p.fKind = 6
      · rw [kinds 6 k6, cnd_true]
        exact goA 2 (fun c1 c2 _ g2 g3 g4 => ⟨g4, c2, .inr (.inr (.inr ⟨.inl k6, by omega, g2, g3⟩))⟩) (by omega) false
      rw [nk 6 k6, cnd_false]
      by_cases k7 : p.fKind = 7
      · rw [kinds 7 k7]
        exact goA 2 (fun c1 c2 _ g2 g3 g4 => ⟨g4, c2, .inr (.inr (.inr ⟨.inr k7, by omega, g2, g3⟩))⟩) (by omega) false
      rw [nk 7 k7]
      exact ⟨_, rfl, nz (by decide) _ _ _⟩
/-- Validate: a fault, or a pattern that is right -/
theorem f9_eq (m : Nat) (hm : 1000 ≤ m) (p : S24) : ∃ f, f9 m p = some f ∧ ((f = (⟨0, 0⟩ : S27) ∧ ∃ n, n ≤ 200 ∧ Gd 40 p n) ∨ f.fCode ≠ 0) := by
  obtain ⟨o, h1, h2⟩ := chk m hm 40 m 1 0 p (by omega) (by omega) (by omega) (by omega)
  have h1 : f21 m (⟨0⟩ : S45) p 1 = some o := h1
  refine ⟨o.1, by unfold f9; rw [h1]; rfl, ?_⟩
  rcases h2 with ⟨e, k', _, _, h3, h4⟩ | h
  · exact .inl ⟨e, _, by omega, h4⟩
  · exact .inr h
end Go.Abs
