import Derived.Test.YthiikobbfpfbkaaDoorWLaw
import Derived.Test.YthiikobbfpfbkaaDoorAbsH
import Derived.Test.YthiikobbfpfbkaaDoorMC8
namespace Go.Abs
open Go.Sort Go.Proofs
set_option linter.unusedVariables false
set_option maxRecDepth 100000
set_option maxHeartbeats 2000000
theorem P24.ext {a b : P24} (h : ep24 a = ep24 b) : a = b := Subtype.ext h
theorem P24.con_vw (p : P24) : P24.con p.vw = p := P24.ext (ep24_vw p).symm
theorem eI_inj : ∀ {a b : List Int}, a.map eI = b.map eI → a = b
  | [], [], _ => rfl
  | x :: r, y :: s, h => by
    simp only [List.map_cons, List.cons.injEq] at h
    have h1 : x = y := by have := h.1; unfold eI at this; injection this
    rw [h1, eI_inj h.2]
  | [], _ :: _, h => by cases h
  | _ :: _, [], h => by cases h
theorem ep24_inj : ∀ {a b : List P24}, a.map ep24 = b.map ep24 → a = b
  | [], [], _ => rfl
  | x :: r, y :: s, h => by
    simp only [List.map_cons, List.cons.injEq] at h
    rw [P24.ext h.1, ep24_inj h.2]
  | [], _ :: _, h => by cases h
  | _ :: _, [], h => by cases h
theorem e24_inj {a b : S24} (h : e24 a = e24 b) : a = b := by
  obtain ⟨a1, a2, a3, a4, a5⟩ := a
  obtain ⟨b1, b2, b3, b4, b5⟩ := b
  unfold e24 vI vP at h
  simp only [V.agg.injEq, List.cons.injEq, V.int.injEq, true_and, V.sl.injEq, and_true] at h
  obtain ⟨rfl, h2, h3, rfl, rfl⟩ := h
  rw [eI_inj h2, ep24_inj h3]
theorem P24.vw_con (s : S24) : (P24.con s).vw = s := e24_inj (ep24_vw (P24.con s)).symm
def F2 {α β : Type} (R : α → β → Prop) : List α → List β → Prop
  | [], [] => True
  | x :: r, y :: s => R x y ∧ F2 R r s
  | _, _ => False
def okC (x : Int) : Prop := 1 ≤ x ∧ x ≤ 1114111 ∧ (x < 55296 ∨ 57343 < x)
def LabOk (l : List Int) : Prop := l.length ≤ 300 ∧ (∀ x ∈ l, okC x) ∧ l.Pairwise (· < ·)
def OkN (p : S24) : Prop :=
  LabOk p.fLabels ∧ (p.fKind = 2 ↔ p.fLabels ≠ []) ∧
  ((p.fKind = 1 ∨ p.fKind = 2) ∧ p.fSubs.length = 0 ∧ p.fLeast = 0 ∧ p.fMost = 0 ∨
   (p.fKind = 3 ∨ p.fKind = 4) ∧ 2 ≤ p.fSubs.length ∧ p.fLeast = 0 ∧ p.fMost = 0 ∨
   p.fKind = 5 ∧ p.fSubs.length = 1 ∧ 0 ≤ p.fLeast ∧ p.fLeast ≤ 9 ∧ -1 ≤ p.fMost ∧ p.fMost ≤ 9 ∧ (0 ≤ p.fMost → p.fLeast ≤ p.fMost) ∨
   (p.fKind = 6 ∨ p.fKind = 7) ∧ p.fSubs.length = 2 ∧ p.fLeast = 0 ∧ p.fMost = 0)
def Gd : Nat → S24 → Nat → Prop
  | 0, _, _ => False
  | r + 1, p, n => OkN p ∧ ∃ ns, F2 (fun q k => Gd r (P24.vw q) k) p.fSubs ns ∧ n = 1 + ns.sum
theorem f37_eq (m : Nat) (x : Int) : ∃ b, f37 m x = some b ∧ (b = true ↔ okC x) := by
  unfold f37 f37_r2 f37_r1
  refine ⟨_, rfl, ?_⟩
  simp only [Bool.and_eq_true, Bool.or_eq_true, decide_eq_true_eq, okC]
  omega
theorem lab_loop (m : Nat) (K : Rec21) (k : Nat) (hk : k < 1000) (p : S24) (hl : p.fLabels.length ≤ 300) : ∀ (M i : Nat), i ≤ p.fLabels.length → p.fLabels.length < M + i →
    (∀ x ∈ p.fLabels.take i, okC x) → (p.fLabels.take i).Pairwise (· < ·) →
    ∃ o, iter (fun (y : Int) => f21_B2 m K (⟨(k : Int)⟩ : S45) p y) M (i : Int) = some o ∧
      (∀ z, o = .inr z → (∀ x ∈ p.fLabels, okC x) ∧ p.fLabels.Pairwise (· < ·)) ∧ (∀ r, o = .inl r → r.1.fCode ≠ 0 ∧ r.2 = (⟨((k + 1 : Nat) : Int)⟩ : S45))
  | 0, i, h1, h2, _, _ => by omega
  | M + 1, i, h1, h2, h3, h4 => by
    have hwk : w64 ((k : Int) + 1) = ((k + 1 : Nat) : Int) := by rw [w64_id ⟨by omega, by omega⟩]; omega
    have hwi : w64 ((i : Int) + 1) = ((i + 1 : Nat) : Int) := by rw [w64_id ⟨by omega, by omega⟩]; omega
    unfold iter f21_B2
    rcases Nat.lt_or_ge i p.fLabels.length with hlt | hge
    · have hx := List.getElem?_eq_getElem hlt
      have e1 : idx p.fLabels (i : Int) = some p.fLabels[i] := by simp [idx, hx]
      obtain ⟨b, hb1, hb2⟩ := f37_eq m p.fLabels[i]
      rw [decide_eq_true (by omega : (i : Int) < (p.fLabels.length : Int)), cnd_true, e1, bnd_some', hb1, bnd_some']
      cases b with
      | false =>
        refine ⟨_, rfl, ⟨fun z hz => (by cases hz), fun r hr => ?_⟩⟩
        cases hr
        exact ⟨(by simp), by simp only [hwk]⟩
      | true =>
        have hok := hb2.1 rfl
        have take1 : p.fLabels.take (i + 1) = p.fLabels.take i ++ [p.fLabels[i]] := by rw [List.take_add_one, hx]; rfl
        have next : (∀ y ∈ p.fLabels.take i, y < p.fLabels[i]) → ∃ o, iter (fun (y : Int) => f21_B2 m K (⟨(k : Int)⟩ : S45) p y) M (w64 ((i : Int) + 1)) = some o ∧
            (∀ z, o = .inr z → (∀ x ∈ p.fLabels, okC x) ∧ p.fLabels.Pairwise (· < ·)) ∧ (∀ r, o = .inl r → r.1.fCode ≠ 0 ∧ r.2 = (⟨((k + 1 : Nat) : Int)⟩ : S45)) := by
          intro hlast
          rw [hwi]
          refine lab_loop m K k hk p hl M (i + 1) hlt (by omega) (fun x hx' => ?_) ?_
          · rw [take1, List.mem_append] at hx'
            rcases hx' with hx' | hx'
            · exact h3 x hx'
            · rw [List.mem_singleton.1 hx']; exact hok
          · rw [take1, List.pairwise_append]
            exact ⟨h4, List.pairwise_singleton _ _, fun a ha b hb => by rw [List.mem_singleton.1 hb]; exact hlast a ha⟩
        rw [Bool.not_true, cnd_false]
        by_cases h0 : i = 0
        · subst h0
          rw [decide_eq_false (by omega : ¬ (((0 : Nat) : Int) > 0)), cnd_false, bnd_some']
          unfold f21_r1
          rw [cnd_false]
          exact next fun y hy => by simp at hy
        · obtain ⟨j, rfl⟩ : ∃ j, i = j + 1 := ⟨i - 1, by omega⟩
          have e0 : w64 (((j + 1 : Nat) : Int) - 1) = (j : Int) := by rw [w64_id ⟨by omega, by omega⟩]; omega
          have hj : j < p.fLabels.length := by omega
          have e2 : idx p.fLabels (j : Int) = some p.fLabels[j] := by simp [idx, List.getElem?_eq_getElem hj]
          rw [decide_eq_true (by omega : (((j + 1 : Nat) : Int) > 0)), cnd_true, e0, e2, bnd_some', bnd_some']
          unfold f21_r1
          by_cases hc : p.fLabels[j] < p.fLabels[j + 1]
          · rw [decide_eq_false (by omega : ¬ (p.fLabels[j] ≥ p.fLabels[j + 1])), cnd_false]
            refine next fun y hy => ?_
            have takej : p.fLabels.take (j + 1) = p.fLabels.take j ++ [p.fLabels[j]] := by rw [List.take_add_one, List.getElem?_eq_getElem hj]; rfl
            rw [takej, List.mem_append] at hy
            rw [takej, List.pairwise_append] at h4
            rcases hy with hy | hy
            · have := h4.2.2 y hy _ List.mem_cons_self
              omega
            · rw [List.mem_singleton.1 hy]; exact hc
          · rw [decide_eq_true (by omega : p.fLabels[j] ≥ p.fLabels[j + 1]), cnd_true]
            refine ⟨_, rfl, ⟨fun z hz => (by cases hz), fun r hr => ?_⟩⟩
            cases hr
            exact ⟨(by simp), by simp only [hwk]⟩
    · have : i = p.fLabels.length := by omega
      subst this
      rw [decide_eq_false (by omega), cnd_false]
      refine ⟨_, rfl, ⟨fun z hz => ?_, fun r hr => nomatch hr⟩⟩
      rw [List.take_length] at h3 h4
      exact ⟨h3, h4⟩
def Res (k : Nat) (P : Nat → Prop) (o : S27 × S45) : Prop := (o.1 = (⟨0, 0⟩ : S27) ∧ ∃ k' : Nat, o.2 = (⟨(k' : Int)⟩ : S45) ∧ k < k' ∧ k' ≤ 200 ∧ P (k' - k)) ∨ o.1.fCode ≠ 0
theorem sub_loop (m : Nat) (K : Rec21) (r : Nat) (p : S24) (d : Int) (hd : 0 ≤ d ∧ d ≤ 40)
    (hK : ∀ (q : S24) (k : Nat), k ≤ 200 → ∃ o, K.r21 (⟨(k : Int)⟩ : S45) q (d + 1) = some o ∧ Res k (Gd r q) o) : ∀ (M i k : Nat), i ≤ p.fSubs.length → i ≤ k → k ≤ 200 → 201 - k < M →
    ∃ o, iter (fun (y : Int × Int) => f21_B3 m K p d y.1 y.2) M ((i : Int), (k : Int)) = some o ∧
      (∀ z, o = .inr z → ∃ ns k', z.2 = ((k' : Nat) : Int) ∧ k ≤ k' ∧ k' ≤ 200 ∧ F2 (fun q n => Gd r (P24.vw q) n) (p.fSubs.drop i) ns ∧ k' = k + ns.sum) ∧ (∀ x, o = .inl x → x.1.fCode ≠ 0)
  | 0, i, k, _, _, _, h => by omega
  | M + 1, i, k, h1, hik, h2, h3 => by
    have hwd : w64 (d + 1) = d + 1 := w64_id ⟨by omega, by omega⟩
    unfold iter f21_B3
    dsimp only
    rw [hwd]
    rcases Nat.lt_or_ge i p.fSubs.length with hlt | hge
    · have hx := List.getElem?_eq_getElem hlt
      have e1 : idx p.fSubs (i : Int) = some p.fSubs[i] := by simp [idx, hx]
      obtain ⟨⟨f, c⟩, g1, g2⟩ := hK p.fSubs[i].vw k h2
      rw [decide_eq_true (by omega : (i : Int) < (p.fSubs.length : Int)), cnd_true, e1, bnd_some', g1, bnd_some']
      rcases g2 with ⟨rfl, k', rfl, g3, g4, g5⟩ | g2
      · have : (!(((⟨0, 0⟩ : S27).fCode == 0) && (((⟨0, 0⟩ : S27).fIndex == 0) && true))) = false := rfl
        rw [this, cnd_false]
        have hi : (i : Int) + 1 = ((i + 1 : Nat) : Int) := by omega
        have hwi : w64 ((i : Int) + 1) = ((i + 1 : Nat) : Int) := by rw [w64_id ⟨by omega, by omega⟩]; omega
        obtain ⟨o, q1, q2, q3⟩ := sub_loop m K r p d hd hK M (i + 1) k' hlt (by omega) g4 (by omega)
        refine ⟨o, ?_, fun z hz => ?_, q3⟩
        · show iter _ M (w64 ((i : Int) + 1), (k' : Int)) = _
          rw [hwi]
          unfold f21_B3 at q1
          rw [hwd] at q1
          exact q1
        · obtain ⟨ns, k2, w1, w2, w3, w4, w5⟩ := q2 z hz
          refine ⟨(k' - k) :: ns, k2, w1, by omega, w3, ?_, by rw [List.sum_cons]; omega⟩
          rw [List.drop_eq_getElem_cons hlt]
          exact ⟨g5, w4⟩
      · have : (!((f.fCode == 0) && ((f.fIndex == 0) && true))) = true := by
          have : (f.fCode == 0) = false := by simpa using g2
          rw [this]; rfl
        rw [this, cnd_true]
        refine ⟨_, rfl, ⟨fun z hz => (by cases hz), fun x hx => ?_⟩⟩
        cases hx
        exact g2
    · have : i = p.fSubs.length := by omega
      subst this
      rw [decide_eq_false (by omega), cnd_false]
      refine ⟨_, rfl, ⟨fun z hz => ?_, fun x hx => (by cases hx)⟩⟩
      cases hz
      refine ⟨[], k, rfl, Nat.le_refl _, h2, ?_, by simp⟩
      rw [List.drop_length]
      trivial
theorem nz {k : Nat} {c : Int} (h : c ≠ 0) (P : Nat → Prop) (x : Int) (y : S45) : Res k P ((⟨c, x⟩ : S27), y) := .inr h
theorem chk (m : Nat) (hm : 1000 ≤ m) : ∀ (r R : Nat) (d : Int) (k : Nat) (p : S24), r < R → d + r = 41 → 0 ≤ d → k ≤ 200 → ∃ o, (K21 m R).r21 (⟨(k : Int)⟩ : S45) p d = some o ∧ Res k (Gd r p) o
  | r, 0, d, k, p, h, _, _, _ => by omega
  | 0, R + 1, d, k, p, h1, h2, h3, h4 => by
    have e : b21 m (K21 m R) (⟨(k : Int)⟩ : S45) p d = some ((⟨2, (k : Int)⟩ : S27), (⟨w64 ((k : Int) + 1)⟩ : S45)) := by
      unfold b21 f21_r19
      have : decide (d > 40) = true := decide_eq_true (by omega)
      rw [this, Bool.or_true, cnd_true]
      rfl
    exact ⟨_, e, nz (by decide) _ _ _⟩
  | r + 1, R + 1, d, k, p, h1, h2, h3, h4 => by
    have hwk : w64 ((k : Int) + 1) = ((k + 1 : Nat) : Int) := by rw [w64_id ⟨by omega, by omega⟩]; omega
    show ∃ o, b21 m (K21 m R) (⟨(k : Int)⟩ : S45) p d = some o ∧ _
    unfold b21
    by_cases hk : k + 1 > 200
    · have : decide (w64 ((⟨(k : Int)⟩ : S45).fNodes + 1) > 200) = true := decide_eq_true (by show w64 ((k : Int) + 1) > 200; rw [hwk]; omega)
      rw [this, Bool.true_or]
      exact ⟨_, rfl, nz (by decide) _ _ _⟩
    · have e1 : decide (w64 ((⟨(k : Int)⟩ : S45).fNodes + 1) > 200) = false := decide_eq_false (by show ¬ w64 ((k : Int) + 1) > 200; rw [hwk]; omega)
      have e2 : decide (d > 40) = false := decide_eq_false (by omega)
      rw [e1, e2, Bool.or_false]
      -- the loops
      have subs : ∀ (h : OkN p), ∃ o, f21_j4 m (K21 m R) (⟨(k : Int)⟩ : S45) p d = some o ∧ Res k (Gd (r + 1) p) o := by
        intro hok
        unfold f21_j4
        show ∃ o, brk (iter _ m (0, w64 ((k : Int) + 1))) _ _ = _ ∧ _
        rw [hwk]
        obtain ⟨o, q1, q2, q3⟩ := sub_loop m (K21 m R) r p d ⟨h3, by omega⟩ (fun q k' hk' => chk m hm r R (d + 1) k' q (by omega) (by omega) (by omega) hk') m 0 (k + 1) (Nat.zero_le _) (Nat.zero_le _) (by omega) (by omega)
        have q1 : iter (fun (y : Int × Int) => f21_B3 m (K21 m R) p d y.1 y.2) m (0, ((k + 1 : Nat) : Int)) = some o := q1
        rw [q1]
        cases o with
        | inl x => exact ⟨x, rfl, .inr (q3 x rfl)⟩
        | inr z =>
          obtain ⟨ns, k', w1, w2, w3, w4, w5⟩ := q2 z rfl
          refine ⟨_, rfl, .inl ⟨rfl, k', by show (⟨z.2⟩ : S45) = _; rw [w1], by omega, w3, hok, ns, by simpa using w4, by omega⟩⟩
      have labs : ∀ c : Int, ((p.fSubs.length : Int) = c) → (p.fKind = 2 ↔ p.fLabels ≠ []) → p.fLabels.length ≤ 300 → (p.fKind ≠ 5 → p.fLeast = 0 → p.fMost = 0 → LabOk p.fLabels → OkN p) →
          (p.fKind = 5 → 0 ≤ p.fLeast → p.fLeast ≤ 9 → -1 ≤ p.fMost → p.fMost ≤ 9 → (0 ≤ p.fMost → p.fLeast ≤ p.fMost) → LabOk p.fLabels → OkN p) →
          ∃ o, f21_r10 m (K21 m R) (⟨(k : Int)⟩ : S45) p d false = some o ∧ Res k (Gd (r + 1) p) o := by
        intro c hc hset hlen hA hB
        unfold f21_r10
        rw [cnd_false]
        obtain ⟨o, q1, q2, q3⟩ := lab_loop m (K21 m R) k (by omega) p hlen m 0 (Nat.zero_le _) (by omega) (by simp) (by simp)
        have q1 : iter (fun (y : Int) => f21_B2 m (K21 m R) (⟨(k : Int)⟩ : S45) p y) m 0 = some o := q1
        rw [q1]
        cases o with
        | inl x => exact ⟨x, rfl, .inr (q3 x rfl).1⟩
        | inr z =>
          have hlab : LabOk p.fLabels := ⟨hlen, q2 z rfl⟩
          rw [brk_inr]
          by_cases h5 : p.fKind = 5
          · have e5 : (p.fKind == 5) = true := by simpa using h5
            rw [e5, cnd_true]
            unfold f21_r8 f21_r7 f21_r6
            by_cases hr : p.fLeast < 0 ∨ p.fLeast > 9 ∨ p.fMost < -1 ∨ p.fMost > 9
            · have : (((decide (p.fLeast < 0) || decide (p.fLeast > 9)) || decide (p.fMost < -1)) || decide (p.fMost > 9)) = true := by
                simp only [Bool.or_eq_true, decide_eq_true_eq]; omega
              rw [this, cnd_true]
              exact ⟨_, rfl, nz (by decide) _ _ _⟩
            · have : (((decide (p.fLeast < 0) || decide (p.fLeast > 9)) || decide (p.fMost < -1)) || decide (p.fMost > 9)) = false := by
                simp only [Bool.or_eq_false_iff, decide_eq_false_iff_not]; omega
              rw [this, cnd_false]
              unfold f21_r5
              by_cases ho : 0 ≤ p.fMost ∧ p.fMost < p.fLeast
              · have : (decide (p.fMost ≥ 0) && decide (p.fMost < p.fLeast)) = true := by simp only [Bool.and_eq_true, decide_eq_true_eq]; omega
                rw [this, cnd_true]
                exact ⟨_, rfl, nz (by decide) _ _ _⟩
              · have : (decide (p.fMost ≥ 0) && decide (p.fMost < p.fLeast)) = false := by
                  rw [Bool.and_eq_false_iff, decide_eq_false_iff_not, decide_eq_false_iff_not]; omega
                rw [this, cnd_false]
                exact subs (hB h5 (by omega) (by omega) (by omega) (by omega) (by omega) hlab)
          · have e5 : (p.fKind == 5) = false := by simpa using h5
            rw [e5, cnd_false]
            unfold f21_r9
            by_cases hz : p.fLeast = 0 ∧ p.fMost = 0
            · have : ((p.fLeast != 0) || (p.fMost != 0)) = false := by simp [hz.1, hz.2]
              rw [this, cnd_false]
              exact subs (hA h5 hz.1 hz.2 hlab)
            · have : ((p.fLeast != 0) || (p.fMost != 0)) = true := by
                simp only [Bool.or_eq_true, bne_iff_ne, ne_eq]; omega
              rw [this, cnd_true]
              exact ⟨_, rfl, nz (by decide) _ _ _⟩
      have counts : ∀ c : Int, (((p.fSubs.length : Int) = c) → (p.fKind = 2 ↔ p.fLabels ≠ []) → p.fLabels.length ≤ 300 → ∃ o, f21_r10 m (K21 m R) (⟨(k : Int)⟩ : S45) p d false = some o ∧ Res k (Gd (r + 1) p) o) → ∀ b,
          ∃ o, f21_j12 m (K21 m R) (⟨(k : Int)⟩ : S45) p d c b = some o ∧ Res k (Gd (r + 1) p) o := by
        intro c hgo b
        unfold f21_j12 f21_r11
        by_cases hbad : (((((p.fSubs.length : Int) != c) || (!((p.fKind == 2) == (decide ((p.fLabels.length : Int) > 0))))) || decide ((p.fLabels.length : Int) > 300))) = true
        · rw [hbad]
          unfold f21_r10
          exact ⟨_, rfl, nz (by decide) _ _ _⟩
        · have hb := Bool.eq_false_iff.2 hbad
          rw [hb]
          simp only [Bool.or_eq_false_iff, bne_eq_false_iff_eq, Bool.not_eq_false', decide_eq_false_iff_not, beq_iff_eq] at hb
          obtain ⟨⟨c1, c2⟩, c3⟩ := hb
          refine hgo c1 ?_ (by omega)
          have : (p.fKind == 2) = decide ((p.fLabels.length : Int) > 0) := c2
          constructor
          · intro h
            have h2 : decide ((p.fLabels.length : Int) > 0) = true := by rw [← this]; simpa using h
            intro h0
            rw [h0] at h2
            cases h2
          · intro h
            have h2 : decide ((p.fLabels.length : Int) > 0) = true := decide_eq_true (by have := List.length_pos_iff.2 h; omega)
            rw [h2] at this
            simpa using this
      -- the kinds
      have kinds : ∀ z : Int, p.fKind = z → ((p.fKind == z) = true) := fun z h => by simpa using h
      have nk : ∀ z : Int, p.fKind ≠ z → ((p.fKind == z) = false) := fun z h => by simpa using h
      have goA : ∀ c : Int, (((p.fSubs.length : Int) = c) → (p.fKind = 2 ↔ p.fLabels ≠ []) → p.fKind ≠ 5 → p.fLeast = 0 → p.fMost = 0 → LabOk p.fLabels → OkN p) → p.fKind ≠ 5 → ∀ b, ∃ o, f21_j12 m (K21 m R) (⟨(k : Int)⟩ : S45) p d c b = some o ∧ Res k (Gd (r + 1) p) o := by
        intro c hA h5
        exact counts c fun c1 c2 c3 => labs c c1 c2 c3 (fun g1 g2 g3 g4 => hA c1 c2 g1 g2 g3 g4) (fun h => absurd h h5)
      unfold f21_r19
      rw [cnd_false]
      by_cases k1 : p.fKind = 1
      · rw [kinds 1 k1, cnd_true]
        exact goA 0 (fun c1 c2 _ g2 g3 g4 => ⟨g4, c2, .inl ⟨.inl k1, by omega, g2, g3⟩⟩) (by omega) true
      rw [nk 1 k1, cnd_false]
      by_cases k2 : p.fKind = 2
      · rw [kinds 2 k2]
        exact goA 0 (fun c1 c2 _ g2 g3 g4 => ⟨g4, c2, .inl ⟨.inr k2, by omega, g2, g3⟩⟩) (by omega) true
      rw [nk 2 k2]
      unfold f21_j18
      rw [cnd_false]
      have two : (p.fKind = 3 ∨ p.fKind = 4) → ∃ o, f21_j14 m (K21 m R) (⟨(k : Int)⟩ : S45) p d false (if (p.fSubs.length : Int) > 2 then (p.fSubs.length : Int) else 2) = some o ∧ Res k (Gd (r + 1) p) o := by
        intro h34
        refine goA _ (fun c1 c2 _ g2 g3 g4 => ⟨g4, c2, .inr (.inl ⟨h34, ?_, g2, g3⟩)⟩) (by omega) false
        split at c1 <;> omega
      by_cases k3 : p.fKind = 3
      · rw [kinds 3 k3, cnd_true]
        exact two (.inl k3)
      rw [nk 3 k3, cnd_false]
      by_cases k4 : p.fKind = 4
      · rw [kinds 4 k4]
        exact two (.inr k4)
      rw [nk 4 k4]
      unfold f21_j17
      rw [cnd_false]
      by_cases k5 : p.fKind = 5
      · rw [kinds 5 k5, cnd_true]
        exact counts 1 (fun c1 c2 c3 => labs 1 c1 c2 c3 (fun h => absurd k5 h) (fun _ g1 g2 g3 g4 g5 g6 => ⟨g6, c2, .inr (.inr (.inl ⟨k5, by omega, g1, g2, g3, g4, g5⟩))⟩)) false
      rw [nk 5 k5, cnd_false]
      by_cases k6 : p.fKind = 6
      · rw [kinds 6 k6, cnd_true]
        exact goA 2 (fun c1 c2 _ g2 g3 g4 => ⟨g4, c2, .inr (.inr (.inr ⟨.inl k6, by omega, g2, g3⟩))⟩) (by omega) false
      rw [nk 6 k6, cnd_false]
      by_cases k7 : p.fKind = 7
      · rw [kinds 7 k7]
        exact goA 2 (fun c1 c2 _ g2 g3 g4 => ⟨g4, c2, .inr (.inr (.inr ⟨.inr k7, by omega, g2, g3⟩))⟩) (by omega) false
      rw [nk 7 k7]
      exact ⟨_, rfl, nz (by decide) _ _ _⟩
theorem f9_eq (m : Nat) (hm : 1000 ≤ m) (p : S24) : ∃ f, f9 m p = some f ∧ ((f = (⟨0, 0⟩ : S27) ∧ ∃ n, n ≤ 200 ∧ Gd 40 p n) ∨ f.fCode ≠ 0) := by
  obtain ⟨o, h1, h2⟩ := chk m hm 40 m 1 0 p (by omega) (by omega) (by omega) (by omega)
  have h1 : f21 m (⟨0⟩ : S45) p 1 = some o := h1
  refine ⟨o.1, by unfold f9; rw [h1]; rfl, ?_⟩
  rcases h2 with ⟨e, k', _, _, h3, h4⟩ | h
  · exact .inl ⟨e, _, by omega, h4⟩
  · exact .inr h
theorem Gd.pos : ∀ {r : Nat} {p : S24} {n : Nat}, Gd r p n → 1 ≤ n
  | 0, _, _, h => h.elim
  | r + 1, p, n, ⟨_, ns, _, h⟩ => by omega
theorem F2.len {α β : Type} {R : α → β → Prop} : ∀ {a : List α} {b : List β}, F2 R a b → a.length = b.length
  | [], [], _ => rfl
  | _ :: _, _ :: _, h => by rw [List.length_cons, List.length_cons, F2.len h.2]
  | [], _ :: _, h => h.elim
  | _ :: _, [], h => h.elim
theorem F2.sum {R : P24 → Nat → Prop} (hR : ∀ q n, R q n → 1 ≤ n) : ∀ {a : List P24} {b : List Nat}, F2 R a b → a.length ≤ b.sum
  | [], [], _ => Nat.le_refl _
  | _ :: _, _ :: _, h => by
    have := F2.sum hR h.2
    have := hR _ _ h.1
    rw [List.length_cons, List.sum_cons]; omega
  | [], _ :: _, h => h.elim
  | _ :: _, [], h => h.elim
theorem F2.mem {R : P24 → Nat → Prop} : ∀ {a : List P24} {b : List Nat}, F2 R a b → ∀ q ∈ a, ∃ k, R q k ∧ k ≤ b.sum
  | [], _, _, q, h => by cases h
  | x :: a, y :: b, h, q, hq => by
    rcases List.mem_cons.1 hq with rfl | hq
    · exact ⟨y, h.1, by rw [List.sum_cons]; omega⟩
    · obtain ⟨k, h1, h2⟩ := F2.mem h.2 q hq
      exact ⟨k, h1, by rw [List.sum_cons]; omega⟩
  | _ :: _, [], h, _, _ => h.elim
abbrev Lg : Type := List Int → Bool
def oneL : Lg := fun u => u.isEmpty
def catL (F G : Lg) : Lg := fun u => (List.range (u.length + 1)).any fun k => F (u.take k) && G (u.drop k)
theorem Lg.ext {F G : Lg} (h : ∀ u, F u = true ↔ G u = true) : F = G := funext fun u => Bool.eq_iff_iff.2 (h u)
theorem oneL_iff (u : List Int) : oneL u = true ↔ u = [] := by simp [oneL]
theorem catL_iff (F G : Lg) (u : List Int) : catL F G u = true ↔ ∃ x y, u = x ++ y ∧ F x = true ∧ G y = true := by
  unfold catL
  rw [List.any_eq_true]
  constructor
  · rintro ⟨k, _, h⟩
    rw [Bool.and_eq_true] at h
    exact ⟨u.take k, u.drop k, (List.take_append_drop k u).symm, h.1, h.2⟩
  · rintro ⟨x, y, rfl, h1, h2⟩
    exact ⟨x.length, List.mem_range.2 (by simp; omega), by simp [h1, h2]⟩
theorem cat_assoc (F G H : Lg) : catL (catL F G) H = catL F (catL G H) := Lg.ext fun u => by
  simp only [catL_iff]
  constructor
  · rintro ⟨xy, z, rfl, ⟨x, y, rfl, h1, h2⟩, h3⟩
    exact ⟨x, y ++ z, by simp, h1, y, z, rfl, h2, h3⟩
  · rintro ⟨x, yz, rfl, h1, y, z, rfl, h2, h3⟩
    exact ⟨x ++ y, z, by simp, ⟨x, y, rfl, h1, h2⟩, h3⟩
theorem one_cat (F : Lg) : catL oneL F = F := Lg.ext fun u => by
  rw [catL_iff]
  constructor
  · rintro ⟨x, y, rfl, h1, h2⟩
    rw [(oneL_iff x).1 h1]; exact h2
  · intro h; exact ⟨[], u, rfl, rfl, h⟩
theorem cat_one (F : Lg) : catL F oneL = F := Lg.ext fun u => by
  rw [catL_iff]
  constructor
  · rintro ⟨x, y, rfl, h1, h2⟩
    rw [(oneL_iff y).1 h2, List.append_nil]; exact h1
  · intro h; exact ⟨u, [], by simp, h, rfl⟩
def pwL (F : Lg) : Nat → Lg
  | 0 => oneL
  | t + 1 => catL (pwL F t) F
theorem pwL_left (F : Lg) : ∀ t, pwL F (t + 1) = catL F (pwL F t)
  | 0 => by
    show catL oneL F = catL F oneL
    rw [one_cat, cat_one]
  | t + 1 => by
    show catL (pwL F (t + 1)) F = catL F (catL (pwL F t) F)
    rw [← cat_assoc, ← pwL_left F t]
theorem pwL_drop (F : Lg) : ∀ (t : Nat) (u : List Int), u.length ≤ t → pwL F (t + 1) u = true → pwL F t u = true
  | 0, u, hl, h => by
    have : u = [] := List.eq_nil_of_length_eq_zero (by omega)
    subst this; rfl
  | t + 1, u, hl, h => by
    obtain ⟨x, y, rfl, h1, h2⟩ := (catL_iff _ _ _).1 h
    by_cases hy : y = []
    · subst hy; rw [List.append_nil]; exact h1
    · have hyl : 0 < y.length := List.length_pos_iff.2 hy
      rw [List.length_append] at hl
      exact (catL_iff _ _ _).2 ⟨x, y, rfl, pwL_drop F t x (by omega) h1, h2⟩
theorem pwL_less (F : Lg) (l : Nat) (u : List Int) : ∀ t, pwL F (l + t) u = true → ∃ t', t' ≤ u.length ∧ pwL F (l + t') u = true
  | 0, h => ⟨0, Nat.zero_le _, h⟩
  | t + 1, h => if ht : t + 1 ≤ u.length then ⟨t + 1, ht, h⟩ else pwL_less F l u t (pwL_drop F (l + t) u (by omega) h)
theorem pwL_many (F : Lg) (l : Nat) (u : List Int) (n : Nat) (hn : u.length ≤ n) : ((List.range (n + 1)).any fun t => pwL F (l + t) u) = (List.range (u.length + 1)).any fun t => pwL F (l + t) u := by
  rw [Bool.eq_iff_iff, List.any_eq_true, List.any_eq_true]
  constructor
  · rintro ⟨t, _, h⟩
    obtain ⟨t', h1, h2⟩ := pwL_less F l u t h
    exact ⟨t', List.mem_range.2 (by omega), h2⟩
  · rintro ⟨t, ht, h⟩
    have := List.mem_range.1 ht
    exact ⟨t, List.mem_range.2 (by omega), h⟩
def repL (F : Lg) (least most : Int) : Lg := fun u => (List.range ((if most < 0 then u.length else (most - least).toNat) + 1)).any fun t => pwL F (least.toNat + t) u
theorem repL_iff {F : Lg} {least most : Int} (h0 : 0 ≤ least) (hm : most < 0 ∨ least ≤ most) (u : List Int) : repL F least most u = true ↔ ∃ n : Nat, least ≤ (n : Int) ∧ (most < 0 ∨ (n : Int) ≤ most) ∧ pwL F n u = true := by
  unfold repL
  rw [List.any_eq_true]
  constructor
  · rintro ⟨t, ht, h⟩
    have ht := List.mem_range.1 ht
    refine ⟨least.toNat + t, by omega, ?_, h⟩
    by_cases hc : most < 0
    · exact .inl hc
    · rw [if_neg hc] at ht; right; omega
  · rintro ⟨n, h1, h2, h3⟩
    by_cases hc : most < 0
    · rw [if_pos hc]
      obtain ⟨t', g1, g2⟩ := pwL_less F least.toNat u (n - least.toNat) (by rw [show least.toNat + (n - least.toNat) = n by omega]; exact h3)
      exact ⟨t', List.mem_range.2 (by omega), g2⟩
    · rw [if_neg hc]
      exact ⟨n - least.toNat, List.mem_range.2 (by omega), by rw [show least.toNat + (n - least.toNat) = n by omega]; exact h3⟩
def setL (ls : List Int) : Lg := fun u => match u with
  | [x] => ls.contains x
  | _ => false
def foldL (l : List Lg) : Lg := l.foldl catL oneL
def noL : Lg := fun _ => false
def eachL (k : Int) (l : List Lg) : Lg := fun u =>
  if k = 4 then (l.headD noL) u || l.tail.any (fun F => F u)
  else if k = 6 then (l.headD noL) u && l.tail.any (fun F => F u)
  else if k = 7 then (l.headD noL) u && !(l.tail.any fun F => F u) else false
noncomputable def lang : Nat → S24 → Lg
  | 0, _ => noL
  | r + 1, p =>
    if p.fKind = 1 then oneL else if p.fKind = 2 then setL p.fLabels
    else if p.fKind = 3 then foldL (p.fSubs.map fun q => lang r q.vw)
    else if p.fKind = 5 then repL ((p.fSubs.map fun q => lang r q.vw).headD noL) p.fLeast p.fMost
    else eachL p.fKind (p.fSubs.map fun q => lang r q.vw)
def partW (w : List Int) (i j : Nat) : List Int := (w.drop i).take (j - i)
theorem partW_len (w : List Int) {i j : Nat} (hj : j ≤ w.length) : (partW w i j).length = j - i := by
  unfold partW; rw [List.length_take, List.length_drop]; omega
theorem partW_split (w : List Int) {i k j : Nat} (h1 : i ≤ k) (h2 : k ≤ j) : partW w i j = partW w i k ++ partW w k j := by
  unfold partW
  rw [show j - i = (k - i) + (j - k) by omega, List.take_add, List.drop_drop, show i + (k - i) = k by omega]
theorem partW_all (w : List Int) : partW w 0 w.length = w := by simp [partW]
theorem partW_left (w : List Int) (i : Nat) : partW w 0 i = w.take i := by simp [partW]
def Loc (w : List Int) (s : Tb) (F : Lg) : Prop := ∀ i j, i ≤ w.length → j ≤ w.length → cell s i j = (decide (i ≤ j) && F (partW w i j))
theorem Loc.iff {w : List Int} {s : Tb} {F : Lg} (h : Loc w s F) {i j : Nat} (hi : i ≤ w.length) (hj : j ≤ w.length) : cell s i j = true ↔ i ≤ j ∧ F (partW w i j) = true := by
  rw [h i j hi hj, Bool.and_eq_true, decide_eq_true_eq]
theorem Loc.of {w : List Int} {s : Tb} {F : Lg} (h : ∀ i j, i ≤ w.length → j ≤ w.length → (cell s i j = true ↔ i ≤ j ∧ F (partW w i j) = true)) : Loc w s F := fun i j hi hj => by
  rw [Bool.eq_iff_iff, h i j hi hj, Bool.and_eq_true, decide_eq_true_eq]
theorem Loc.congr {w : List Int} {s : Tb} {F G : Lg} (h : Loc w s F) (e : ∀ u : List Int, u.length ≤ w.length → F u = G u) : Loc w s G := fun i j hi hj => by
  rw [h i j hi hj, e _ (by rw [partW_len w hj]; omega)]
theorem loc_id (w : List Int) : Loc w (idM (w.length + 1)) oneL := Loc.of fun i j hi hj => by
  rw [idM_mk, mkM_cell (by omega) (by omega), decide_eq_true_eq, oneL_iff]
  constructor
  · rintro rfl
    exact ⟨Nat.le_refl _, List.eq_nil_of_length_eq_zero (by rw [partW_len w hj]; omega)⟩
  · rintro ⟨h1, h2⟩
    have := partW_len w (i := i) hj
    rw [h2] at this
    simp at this
    omega
theorem loc_set (ls w : List Int) : Loc w (setM ls w) (setL ls) := fun i j hi hj => by
  unfold setM
  rw [mkM_cell (by omega) (by omega)]
  have hl := partW_len w (i := i) hj
  by_cases h : j = i + 1
  · subst h
    have hx : w[i]? = some w[i] := List.getElem?_eq_getElem (by omega)
    have e : partW w i (i + 1) = [w[i]] := by
      unfold partW
      rw [show i + 1 - i = 1 by omega, List.drop_eq_getElem_cons (by omega)]
      rfl
    rw [e, hx]
    simp [setL]
  · rw [decide_eq_false h, Bool.false_and]
    by_cases h2 : i ≤ j
    · have : setL ls (partW w i j) = false := by
        generalize partW w i j = u at hl ⊢
        match u, hl with
        | [], _ => rfl
        | [x], hl => simp at hl; omega
        | _ :: _ :: _, _ => rfl
      rw [this, Bool.and_false]
    · rw [decide_eq_false h2, Bool.false_and]
theorem cell_then {a b : Tb} {N i j : Nat} (hi : i < N) (hj : j < N) : cell (thenM a b N) i j = true ↔ ∃ k, k < N ∧ cell a i k = true ∧ cell b k j = true := by
  have e : cell (thenM a b N) i j = (List.range N).any fun u => cell a i u && cell b u j := by
    have e1 : (thenM a b N).getD i [] = pr a b N i N 0 := by
      unfold thenM
      rw [List.getD_eq_getElem?_getD, List.getElem?_map, List.getElem?_range hi]; rfl
    show ((thenM a b N).getD i []).getD j false = _
    rw [e1, List.getD_eq_getElem?_getD, pr_get a b N i N 0 j hj]
    simp
  rw [e, List.any_eq_true]
  constructor
  · rintro ⟨k, hk, h⟩
    rw [Bool.and_eq_true] at h
    exact ⟨k, List.mem_range.1 hk, h.1, h.2⟩
  · rintro ⟨k, hk, h1, h2⟩
    exact ⟨k, List.mem_range.2 hk, by rw [h1, h2]; rfl⟩
theorem Loc.then {w : List Int} {a b : Tb} {F G : Lg} (ha : Loc w a F) (hb : Loc w b G) : Loc w (thenM a b (w.length + 1)) (catL F G) := Loc.of fun i j hi hj => by
  rw [cell_then (by omega) (by omega), catL_iff]
  constructor
  · rintro ⟨k, hk, h1, h2⟩
    obtain ⟨h3, h4⟩ := (ha.iff hi (by omega)).1 h1
    obtain ⟨h5, h6⟩ := (hb.iff (by omega) hj).1 h2
    exact ⟨by omega, _, _, partW_split w h3 h5, h4, h6⟩
  · rintro ⟨hij, x, y, e, h1, h2⟩
    have hl := partW_len w (i := i) hj
    rw [e, List.length_append] at hl
    have hs := partW_split w (i := i) (k := i + x.length) (j := j) (by omega) (by omega)
    rw [e] at hs
    have hx : (partW w i (i + x.length)).length = x.length := by rw [partW_len w (by omega)]; omega
    obtain ⟨e1, e2⟩ := List.append_inj hs hx.symm
    exact ⟨i + x.length, by omega, (ha.iff hi (by omega)).2 ⟨by omega, by rw [← e1]; exact h1⟩, (hb.iff (by omega) hj).2 ⟨by omega, by rw [← e2]; exact h2⟩⟩
theorem loc_fold {α : Type} (w : List Int) (f : α → Tb) (g : α → Lg) : ∀ (l : List α), (∀ x ∈ l, Loc w (f x) (g x)) → ∀ (m : Tb) (F : Lg), Loc w m F → Loc w ((l.map f).foldl (fun m s => thenM m s (w.length + 1)) m) ((l.map g).foldl catL F)
  | [], _, m, F, h => h
  | x :: l, hl, m, F, h => loc_fold w f g l (fun y hy => hl y (List.mem_cons_of_mem _ hy)) _ _ (h.then (hl x List.mem_cons_self))
theorem loc_pow {w : List Int} {s : Tb} {F : Lg} (h : Loc w s F) : ∀ t, Loc w (powM s (w.length + 1) t (idM (w.length + 1))) (pwL F t)
  | 0 => loc_id w
  | t + 1 => by rw [powM_succ]; exact (loc_pow h t).then h
theorem loc_rep {w : List Int} {s : Tb} {F : Lg} (h : Loc w s F) : ∀ (t : Nat) (m part : Tb) (M : Lg) (q : Nat), Loc w m M → Loc w part (pwL F q) → Loc w (repM s (w.length + 1) t m part) (fun u => M u || (List.range t).any fun e => pwL F (q + 1 + e) u)
  | 0, m, part, M, q, hm, hp => by
    refine hm.congr fun u _ => ?_
    simp
  | t + 1, m, part, M, q, hm, hp => by
    have hp' : Loc w (thenM part s (w.length + 1)) (pwL F (q + 1)) := hp.then h
    have hm' : Loc w (orM m (thenM part s (w.length + 1)) (w.length + 1)) (fun u => M u || pwL F (q + 1) u) := fun i j hi hj => by
      unfold orM
      rw [mkM_cell (by omega) (by omega), hm i j hi hj, hp' i j hi hj]
      cases decide (i ≤ j) <;> simp
    refine (loc_rep h t _ _ _ (q + 1) hm' hp').congr fun u _ => ?_
    rw [List.range_succ_eq_map, List.any_cons, List.any_map, Bool.or_assoc]
    have e : (fun e => pwL F (q + 1 + 1 + e) u) = ((fun e => pwL F (q + 1 + e) u) ∘ Nat.succ) := by
      funext e
      show _ = pwL F (q + 1 + (e + 1)) u
      rw [show q + 1 + (e + 1) = q + 1 + 1 + e by omega]
    rw [e]
theorem loc_each {α : Type} (w : List Int) (k : Int) (f : α → Tb) (g : α → Lg) (l : List α) (hne : l ≠ []) (hl : ∀ x ∈ l, Loc w (f x) (g x)) : Loc w (eachM k (l.map f) (w.length + 1)) (eachL k (l.map g)) := fun i j hi hj => by
  unfold eachM
  rw [mkM_cell (by omega) (by omega)]
  cases l with
  | nil => exact absurd rfl hne
  | cons x l =>
    have h0 := hl x List.mem_cons_self i j hi hj
    have h1 : ((x :: l).map f).tail.any (fun s => cell s i j) = (decide (i ≤ j) && ((x :: l).map g).tail.any (fun F => F (partW w i j))) := by
      show (l.map f).any _ = (_ && (l.map g).any _)
      have hl' : ∀ y ∈ l, cell (f y) i j = (decide (i ≤ j) && g y (partW w i j)) := fun y hy => hl y (List.mem_cons_of_mem _ hy) i j hi hj
      clear hl h0 hne
      induction l with
      | nil => simp
      | cons y l ih =>
        rw [List.map_cons, List.any_cons, ih (fun z hz => hl' z (List.mem_cons_of_mem _ hz)), hl' y List.mem_cons_self, List.map_cons, List.any_cons]
        cases decide (i ≤ j) <;> simp
    have h2 : cell (((x :: l).map f).headD []) i j = (decide (i ≤ j) && ((x :: l).map g).headD noL (partW w i j)) := h0
    rw [h1, h2]
    unfold eachL
    by_cases hij : i ≤ j
    · rw [decide_eq_true hij]; simp only [Bool.true_and]
    · rw [decide_eq_false hij]; simp
theorem mtx_loc : ∀ (r : Nat) (p : S24) (w : List Int), OkM r p → Loc w (mtx r p w) (lang r p)
  | 0, _, _, h => h.elim
  | r + 1, p, w, h => by
    obtain ⟨h1, h2, h3, h4, h5, h6⟩ := h
    have hs : ∀ q ∈ p.fSubs, Loc w (mtx r q.vw w) (lang r q.vw) := fun q hq => mtx_loc r q.vw w (h4 q hq)
    unfold mtx lang
    by_cases k1 : p.fKind = 1
    · rw [if_pos k1, if_pos k1]; exact loc_id w
    rw [if_neg k1, if_neg k1]
    by_cases k2 : p.fKind = 2
    · rw [if_pos k2, if_pos k2]; exact loc_set _ _
    rw [if_neg k2, if_neg k2]
    by_cases k3 : p.fKind = 3
    · rw [if_pos k3, if_pos k3]; exact loc_fold w _ _ p.fSubs hs _ _ (loc_id w)
    rw [if_neg k3, if_neg k3]
    by_cases k5 : p.fKind = 5
    · rw [if_pos k5, if_pos k5]
      obtain ⟨h51, h52, _, _, _⟩ := h5 k5
      have hh : Loc w ((p.fSubs.map fun q => mtx r q.vw w).headD []) ((p.fSubs.map fun q => lang r q.vw).headD noL) := by
        revert hs h51
        generalize p.fSubs = l
        intro hs h51
        match l, h51 with
        | [q], _ => exact hs q List.mem_cons_self
      refine (loc_rep hh _ _ _ _ _ (loc_pow hh _) (loc_pow hh _)).congr fun u hu => ?_
      generalize ((p.fSubs.map fun q => lang r q.vw).headD noL) = F
      have e : ∀ n, (pwL F p.fLeast.toNat u || (List.range n).any fun e => pwL F (p.fLeast.toNat + 1 + e) u) = (List.range (n + 1)).any fun t => pwL F (p.fLeast.toNat + t) u := fun n => by
        rw [List.range_succ_eq_map, List.any_cons, List.any_map]
        have e : (fun e => pwL F (p.fLeast.toNat + 1 + e) u) = ((fun e => pwL F (p.fLeast.toNat + e) u) ∘ Nat.succ) := by
          funext e
          show _ = pwL F (p.fLeast.toNat + (e + 1)) u
          rw [show p.fLeast.toNat + (e + 1) = p.fLeast.toNat + 1 + e by omega]
        rw [e]
        rfl
      rw [e]
      unfold repL
      by_cases hm : p.fMost < 0
      · rw [if_pos hm, if_pos hm]; exact pwL_many F _ u _ hu
      · rw [if_neg hm, if_neg hm]
    rw [if_neg k5, if_neg k5]
    exact loc_each w _ _ _ _ (h6 k1 k2 k3 k5) hs
theorem mtx_lang (r : Nat) (p : S24) (w : List Int) (h : OkM r p) : cell (mtx r p w) 0 w.length = lang r p w := by
  rw [mtx_loc r p w h 0 w.length (Nat.zero_le _) (Nat.le_refl _), partW_all]; simp
theorem OkM_succ : ∀ (r : Nat) (p : S24), OkM r p → OkM (r + 1) p
  | 0, _, h => h.elim
  | r + 1, p, ⟨h1, h2, h3, h4, h5⟩ => ⟨h1, h2, h3, fun q hq => OkM_succ r q.vw (h4 q hq), h5⟩
theorem lang_succ : ∀ (r : Nat) (p : S24), OkM r p → lang (r + 1) p = lang r p
  | 0, _, h => h.elim
  | r + 1, p, ⟨h1, h2, h3, h4, h5⟩ => by
    have e : (p.fSubs.map fun q => lang (r + 1) q.vw) = p.fSubs.map fun q => lang r q.vw := List.map_congr_left fun q hq => lang_succ r q.vw (h4 q hq)
    rw [lang, e, lang]
instance decS27 (a b : S27) : Decidable (a = b) := decidable_of_iff (a.fCode = b.fCode ∧ a.fIndex = b.fIndex) (by cases a; cases b; simp)
theorem Gd.okM : ∀ (r : Nat) (p : S24) (n : Nat), n ≤ 200 → Gd r p n → OkM r p
  | 0, _, _, _, h => h.elim
  | r + 1, p, n, hn, ⟨⟨⟨hl1, hl2, hl3⟩, hk2, hk⟩, ns, hF, e⟩ => by
    have hs : p.fSubs.length ≤ ns.sum := F2.sum (fun q n h => Gd.pos h) hF
    refine ⟨hl1, hl3, by omega, fun q hq => ?_, fun h5 => ?_, fun h1 h2 h3 h5 he => ?_⟩
    · obtain ⟨k, g2, g1⟩ := hF.mem q hq
      exact Gd.okM r q.vw k (by omega) g2
    · rcases hk with ⟨h, _⟩ | ⟨h, _⟩ | ⟨_, g1, g2, g3, g4, g5, _⟩ | ⟨h, _⟩
      · omega
      · omega
      · exact ⟨g1, g2, g3, g4, g5⟩
      · omega
    · rw [he] at hk
      simp only [List.length_nil] at hk
      omega
theorem OkM_le {r : Nat} {p : S24} (h : OkM r p) : ∀ k, OkM (r + k) p
  | 0 => h
  | k + 1 => OkM_succ _ _ (OkM_le h k)
theorem lang_le {r : Nat} {p : S24} (h : OkM r p) : ∀ k, lang (r + k) p = lang r p
  | 0 => rfl
  | k + 1 => by rw [← lang_le h k]; exact lang_succ _ _ (OkM_le h k)
def VOk (m : Nat) (p : S24) : Prop := f9 m p = some (⟨0, 0⟩ : S27)
theorem VOk.okM {m : Nat} (hm : 1000 ≤ m) {p : S24} (h : VOk m p) : OkM 40 p := by
  obtain ⟨f, h1, h2⟩ := f9_eq m hm p
  have e : f = (⟨0, 0⟩ : S27) := Option.some.inj (h1.symm.trans h)
  subst e
  rcases h2 with ⟨_, n, h3, h4⟩ | h2
  · exact Gd.okM 40 p n h3 h4
  · exact absurd rfl h2
def WOk (w : List Int) : Prop := w.length ≤ 30 ∧ ∀ x ∈ w, 1 ≤ x ∧ x ≤ 1114111
theorem WOk.take {w : List Int} (h : WOk w) (i : Nat) : WOk (w.take i) := ⟨by rw [List.length_take]; have := h.1; omega, fun x hx => h.2 x (List.mem_of_mem_take hx)⟩
theorem WOk.drop {w : List Int} (h : WOk w) (i : Nat) : WOk (w.drop i) := ⟨by rw [List.length_drop]; have := h.1; omega, fun x hx => h.2 x (List.mem_of_mem_drop hx)⟩
theorem f16_loop (m : Nat) (l : List Int) (hl : l.length ≤ 1000) : ∀ (M i : Nat), i ≤ l.length → l.length < M + i →
    iter (fun (y : Int) => f16_B2 m l y) M (i : Int) = some (if ∀ x ∈ l.drop i, 1 ≤ x ∧ x ≤ 1114111 then .inr (l.length : Int) else .inl (false, (⟨3, -2⟩ : S27)))
  | 0, i, h1, h2 => by omega
  | M + 1, i, h1, h2 => by
    unfold iter
    rcases Nat.lt_or_ge i l.length with hlt | hge
    · have hx := List.getElem?_eq_getElem hlt
      have e1 : idx l (i : Int) = some l[i] := by simp [idx, hx]
      have hwi : w64 ((i : Int) + 1) = ((i + 1 : Nat) : Int) := by rw [w64_id ⟨by omega, by omega⟩]; omega
      have hf : f23 m 3 (-2) = some (⟨3, -2⟩ : S27) := rfl
      rw [List.drop_eq_getElem_cons hlt]
      by_cases hc : 1 ≤ l[i] ∧ l[i] ≤ 1114111
      · have hB : f16_B2 m l (i : Int) = some (.nxt ((i + 1 : Nat) : Int)) := by
          unfold f16_B2
          rw [decide_eq_true (by omega : (i : Int) < (l.length : Int)), cnd_true, e1, bnd_some']
          unfold f16_r1
          rw [decide_eq_false (by omega : ¬ l[i] < 1), decide_eq_false (by omega : ¬ l[i] > 1114111)]
          rw [Bool.or_false, cnd_false, hwi]
        rw [hB]
        show iter (fun (y : Int) => f16_B2 m l y) M ((i + 1 : Nat) : Int) = _
        rw [f16_loop m l hl M (i + 1) hlt (by omega)]
        congr 1
        by_cases h3 : ∀ x ∈ l.drop (i + 1), 1 ≤ x ∧ x ≤ 1114111
        · rw [if_pos h3, if_pos (fun x hx => by
            rcases List.mem_cons.1 hx with rfl | hx
            · exact hc
            · exact h3 x hx)]
        · rw [if_neg h3, if_neg (fun h => h3 fun x hx => h x (List.mem_cons_of_mem _ hx))]
      · have hB : f16_B2 m l (i : Int) = some (.ret (false, (⟨3, -2⟩ : S27))) := by
          unfold f16_B2
          rw [decide_eq_true (by omega : (i : Int) < (l.length : Int)), cnd_true, e1, bnd_some']
          unfold f16_r1
          have hb : (decide (l[i] < 1) || decide (l[i] > 1114111)) = true := by
            rw [Bool.or_eq_true, decide_eq_true_eq, decide_eq_true_eq]; omega
          rw [hb, cnd_true, hf, bnd_some']
        rw [hB, if_neg (fun h => hc (h _ List.mem_cons_self))]
    · have : i = l.length := by omega
      subst this
      have hB : f16_B2 m l (l.length : Int) = some (.brk (l.length : Int)) := by
        unfold f16_B2
        rw [decide_eq_false (by omega), cnd_false]
      rw [hB, List.drop_length, if_pos (fun x hx => by cases hx)]
theorem zero27 (f : S27) : ((f.fCode == 0) && ((f.fIndex == 0) && true)) = decide (f = (⟨0, 0⟩ : S27)) := by
  obtain ⟨a, b⟩ := f
  rw [Bool.eq_iff_iff, Bool.and_true, Bool.and_eq_true, beq_iff_eq, beq_iff_eq, decide_eq_true_eq, S27.mk.injEq]
noncomputable def wordF (w : List Int) : S27 := if w.length ≤ 30 then (if ∀ x ∈ w, 1 ≤ x ∧ x ≤ 1114111 then ⟨0, 0⟩ else ⟨3, -2⟩) else ⟨2, -2⟩
theorem wordF_ok {w : List Int} : wordF w = (⟨0, 0⟩ : S27) ↔ WOk w := by
  unfold wordF WOk
  by_cases h : w.length ≤ 30
  · rw [if_pos h]
    by_cases h2 : ∀ x ∈ w, 1 ≤ x ∧ x ≤ 1114111
    · rw [if_pos h2]; exact ⟨fun _ => ⟨h, h2⟩, fun _ => rfl⟩
    · rw [if_neg h2]; exact ⟨fun e => (by cases e), fun e => absurd e.2 h2⟩
  · rw [if_neg h]; exact ⟨fun e => (by cases e), fun e => absurd e.1 h⟩
theorem f16_exact (m : Nat) (hm : 1000 ≤ m) (p : S24) (w : List Int) (f : S27) (h1 : f9 m p = some f) :
    f16 m p w = some (if f = (⟨0, 0⟩ : S27) then (if wordF w = (⟨0, 0⟩ : S27) then (lang 70 p w, (⟨0, 0⟩ : S27)) else (false, wordF w)) else (false, f)) := by
  by_cases hf : f = (⟨0, 0⟩ : S27)
  case neg =>
    rw [if_neg hf]
    unfold f16
    rw [h1, bnd_some', zero27, decide_eq_false hf, Bool.not_false, cnd_true]
  rw [if_pos hf]
  subst hf
  have hV : VOk m p := h1
  have e0 : f16 m p w = cnd (decide ((w.length : Int) > 30)) (bnd (f23 m 2 (-2)) fun v2 => some ((false, v2))) (brk (iter (fun (y : Int) => f16_B2 m w y) m 0) some fun y42 =>
      bnd (f33 m p w) fun v44 => bnd (idx v44 0) fun v45 => bnd (idx v45 (w.length : Int)) fun v46 => some ((v46, (⟨0, 0⟩ : S27)))) := by
    unfold f16
    rw [h1, bnd_some', zero27, decide_eq_true rfl, Bool.not_true, cnd_false]
  unfold wordF
  by_cases hl : w.length ≤ 30
  case neg =>
    rw [e0, decide_eq_true (by omega), cnd_true, if_neg hl, if_neg (fun e => by cases e)]
    rfl
  have hlp := f16_loop m w (by omega) m 0 (Nat.zero_le _) (by omega)
  rw [List.drop_zero] at hlp
  have hlp : iter (fun (y : Int) => f16_B2 m w y) m 0 = _ := hlp
  rw [e0, decide_eq_false (by omega), cnd_false, hlp, if_pos hl]
  by_cases hx : ∀ x ∈ w, 1 ≤ x ∧ x ≤ 1114111
  case neg =>
    rw [if_neg hx, if_neg hx, if_neg (fun e => by cases e)]
    rfl
  rw [if_pos hx, if_pos hx, if_pos rfl]
  have hO : OkM 70 p := OkM_le (hV.okM hm) 30
  have hsq := mtx_sq 70 p w hO
  have h33 : f33 m p w = some (mtx 70 p w) := by unfold f33; rw [if_pos ⟨hO, by omega⟩]
  obtain ⟨r0, hr0, _, hrc⟩ := hsq.row (i := 0) (by omega)
  have i1 : idx (mtx 70 p w) (0 : Int) = some r0 := by simp [idx, hr0]
  have i2 : idx r0 (w.length : Int) = some (cell (mtx 70 p w) 0 w.length) := by simp [idx, hrc w.length (by omega)]
  show bnd (f33 m p w) _ = _
  rw [h33, bnd_some', i1, bnd_some', i2, bnd_some', mtx_lang 70 p w hO]
theorem f16_eq (m : Nat) (hm : 1000 ≤ m) (p : S24) (w : List Int) : ∃ o, f16 m p w = some o ∧ (VOk m p ∧ WOk w ∧ o = (lang 70 p w, (⟨0, 0⟩ : S27)) ∨ ¬ (VOk m p ∧ WOk w) ∧ o.2 ≠ (⟨0, 0⟩ : S27)) := by
  obtain ⟨f, h1, h2⟩ := f9_eq m hm p
  refine ⟨_, f16_exact m hm p w f h1, ?_⟩
  by_cases hf : f = (⟨0, 0⟩ : S27)
  case neg =>
    rw [if_neg hf]
    exact .inr ⟨fun h => hf (Option.some.inj (h1.symm.trans h.1)), hf⟩
  rw [if_pos hf]
  subst hf
  by_cases hw : wordF w = (⟨0, 0⟩ : S27)
  · rw [if_pos hw]; exact .inl ⟨h1, wordF_ok.1 hw, rfl⟩
  · rw [if_neg hw]; exact .inr ⟨fun h => hw (wordF_ok.2 h.2), hw⟩
theorem any_loop (B : Int → Option (Stp Bool Int)) (c : Nat → Bool) (E i0 : Nat) (hB : ∀ i : Nat, i0 ≤ i → i < E → B (i : Int) = if c i = true then some (.ret true) else some (.nxt ((i + 1 : Nat) : Int))) (hE : B (E : Int) = some (.brk (E : Int))) :
    ∀ (M i : Nat), i0 ≤ i → i ≤ E → E < M + i → (iter B M (i : Int) = some (.inl true) ∧ ∃ k, i ≤ k ∧ k < E ∧ c k = true) ∨ (iter B M (i : Int) = some (.inr (E : Int)) ∧ ∀ k, i ≤ k → k < E → c k = false)
  | 0, i, h0, h1, h2 => by omega
  | M + 1, i, h0, h1, h2 => by
    unfold iter
    rcases Nat.lt_or_ge i E with hlt | hge
    · rw [hB i h0 hlt]
      by_cases hc : c i = true
      · rw [if_pos hc]
        exact .inl ⟨rfl, i, Nat.le_refl _, hlt, hc⟩
      · rw [if_neg hc]
        rcases any_loop B c E i0 hB hE M (i + 1) (by omega) hlt (by omega) with ⟨g1, k, g2, g3, g4⟩ | ⟨g1, g2⟩
        · exact .inl ⟨g1, k, by omega, g3, g4⟩
        · refine .inr ⟨g1, fun k hk hkE => ?_⟩
          rcases Nat.lt_or_ge i k with h | h
          · exact g2 k h hkE
          · have : k = i := by omega
            subst this
            simpa using hc
    · have : i = E := by omega
      subst this
      rw [hE]
      exact .inr ⟨rfl, fun k h1 h2 => by omega⟩
def rowL : List Lg → Lg
  | [] => oneL
  | F :: r => catL F (rowL r)
theorem fold_row : ∀ (l : List Lg) (A : Lg), l.foldl catL A = catL A (rowL l)
  | [], A => (cat_one A).symm
  | F :: r, A => by
    show r.foldl catL (catL A F) = catL A (catL F (rowL r))
    rw [fold_row r, cat_assoc]
theorem foldL_row (l : List Lg) : foldL l = rowL l := by
  unfold foldL
  rw [fold_row, one_cat]
theorem rowL_one (F : Lg) : rowL [F] = F := cat_one F
def HK (m B : Nat) (F : P24 → Lg) (q : P24) : Prop := ∀ (R : Nat) (u : List Int), B ≤ R → u.length ≤ 30 → (K19 m R).r19 q.vw u = some (F q u)
theorem row_eq (m : Nat) (hm : 1000 ≤ m) (B : Nat) (F : P24 → Lg) : ∀ (l : List P24), l ≠ [] → (∀ q ∈ l, HK m B F q) → ∀ (R : Nat) (u : List Int), l.length + B ≤ R → u.length ≤ 30 → (K19 m R).r35 l u = some (rowL (l.map F) u)
  | [], h, _, _, _, _, _ => absurd rfl h
  | q :: l, _, hq, 0, u, hR, hu => by simp at hR
  | q :: l, _, hq, R + 1, u, hR, hu => by
    show b35 m (K19 m R) (q :: l) u = _
    rw [List.length_cons] at hR
    unfold b35
    have i0 : idx (q :: l) (0 : Int) = some q := rfl
    have hq0 := hq q List.mem_cons_self
    cases l with
    | nil =>
      have e : (((([q] : List P24).length : Nat) : Int) == 1) = true := rfl
      rw [e, cnd_true, i0, bnd_some', hq0 R u (by omega) hu, bnd_some']
      show _ = some (rowL [F q] u)
      rw [rowL_one]
    | cons q2 l =>
      have e : ((((q :: q2 :: l : List P24).length : Nat) : Int) == 1) = false := by
        rw [beq_eq_false_iff_ne, List.length_cons, List.length_cons]; omega
      rw [e, cnd_false]
      have ih : ∀ (u : List Int), u.length ≤ 30 → (K19 m R).r35 (q2 :: l) u = some (rowL ((q2 :: l).map F) u) := fun u hu => row_eq m hm B F (q2 :: l) (by simp) (fun x hx => hq x (List.mem_cons_of_mem _ hx)) R u (by omega) hu
      have hB : ∀ i : Nat, 0 ≤ i → i < u.length + 1 → f35_B2 m (K19 m R) (q :: q2 :: l) u (i : Int) = if (F q (u.take i) && rowL ((q2 :: l).map F) (u.drop i)) = true then some (.ret true) else some (.nxt ((i + 1 : Nat) : Int)) := by
        intro i _ hi
        have hwi : w64 ((i : Int) + 1) = ((i + 1 : Nat) : Int) := by rw [w64_id ⟨by omega, by omega⟩]; omega
        have s1 : sub u 0 (i : Int) = some (u.take i) := by unfold sub; rw [if_pos (by omega)]; simp
        have s2 : sub u (i : Int) (u.length : Int) = some (u.drop i) := by unfold sub; rw [if_pos (by omega)]; simp only [Int.toNat_natCast]; rw [List.take_of_length_le (by simp)]
        have s3 : sub (q :: q2 :: l) 1 (((q :: q2 :: l).length : Nat) : Int) = some (q2 :: l) := by
          unfold sub
          rw [if_pos (by simp only [List.length_cons]; omega), show (1 : Int).toNat = 1 from rfl, Int.toNat_natCast, List.drop_one, List.tail_cons, List.take_of_length_le (by simp)]
        have g1 := hq0 R (u.take i) (by omega) (by rw [List.length_take]; omega)
        have g2 := ih (u.drop i) (by rw [List.length_drop]; omega)
        unfold f35_B2
        rw [decide_eq_true (by omega : (i : Int) ≤ (u.length : Int)), cnd_true, i0, bnd_some', s1, bnd_some', g1, bnd_some']
        unfold f35_r1
        cases F q (u.take i) with
        | false => rw [cnd_false, bnd_some', cnd_false, hwi]; rfl
        | true =>
          rw [cnd_true, s3, bnd_some', s2, bnd_some', g2, bnd_some', bnd_some', Bool.true_and]
          cases rowL ((q2 :: l).map F) (u.drop i) with
          | false => rw [cnd_false, hwi]; rfl
          | true => rw [cnd_true]; rfl
      have hE : f35_B2 m (K19 m R) (q :: q2 :: l) u ((u.length + 1 : Nat) : Int) = some (.brk ((u.length + 1 : Nat) : Int)) := by
        unfold f35_B2
        rw [decide_eq_false (by omega), cnd_false]
      have hcat : rowL ((q :: q2 :: l).map F) u = (List.range (u.length + 1)).any fun k => F q (u.take k) && rowL ((q2 :: l).map F) (u.drop k) := rfl
      rcases any_loop _ _ (u.length + 1) 0 hB hE m 0 (Nat.le_refl _) (Nat.zero_le _) (by omega) with ⟨g1, k, _, g3, g4⟩ | ⟨g1, g2⟩
      · have g1 : iter (fun (y : Int) => f35_B2 m (K19 m R) (q :: q2 :: l) u y) m 0 = some (.inl true) := g1
        rw [g1, hcat]
        have : ((List.range (u.length + 1)).any fun k => F q (u.take k) && rowL ((q2 :: l).map F) (u.drop k)) = true := List.any_eq_true.2 ⟨k, List.mem_range.2 g3, g4⟩
        rw [this]
        rfl
      · have g1 : iter (fun (y : Int) => f35_B2 m (K19 m R) (q :: q2 :: l) u y) m 0 = some (.inr ((u.length + 1 : Nat) : Int)) := g1
        rw [g1, hcat]
        have : ((List.range (u.length + 1)).any fun k => F q (u.take k) && rowL ((q2 :: l).map F) (u.drop k)) = false := List.any_eq_false.2 fun k hk => by
          rw [g2 k (Nat.zero_le _) (List.mem_range.1 hk)]; simp
        rw [this]
        rfl
def TP (F : Lg) (least most : Int) (u : List Int) : Prop := ∃ n : Nat, least ≤ (n : Int) ∧ (most < 0 ∨ (n : Int) ≤ most) ∧ pwL F n u = true
theorem pw_nil_of {F : Lg} {n : Nat} (h : pwL F (n + 1) [] = true) : F [] = true := by
  obtain ⟨x, y, e, _, h2⟩ := (catL_iff _ _ _).1 h
  have : y = [] := (List.append_eq_nil_iff.1 e.symm).2
  rw [this] at h2
  exact h2
theorem pw_nil {F : Lg} (h : F [] = true) : ∀ n, pwL F n [] = true
  | 0 => rfl
  | n + 1 => (catL_iff _ _ _).2 ⟨[], [], rfl, pw_nil h n, h⟩
theorem pw_first {F : Lg} : ∀ (n : Nat) (u : List Int), u ≠ [] → pwL F n u = true → ∃ x y n', u = x ++ y ∧ x ≠ [] ∧ F x = true ∧ n = n' + 1 ∧ pwL F n' y = true
  | 0, u, hu, h => absurd ((oneL_iff u).1 h) hu
  | n + 1, u, hu, h => by
    rw [pwL_left] at h
    obtain ⟨x, y, rfl, h1, h2⟩ := (catL_iff _ _ _).1 h
    by_cases hx : x = []
    · subst hx
      obtain ⟨x', y', n', e, g1, g2, rfl, g3⟩ := pw_first n y hu h2
      refine ⟨x', y', n' + 1, e, g1, g2, rfl, ?_⟩
      rw [pwL_left]
      exact (catL_iff _ _ _).2 ⟨[], y', rfl, h1, g3⟩
    · exact ⟨x, y, n, rfl, hx, h1, rfl, h2⟩
theorem TP_step {F : Lg} {least most : Int} {u : List Int} (hu : u ≠ []) (hm : most ≠ 0) : TP F least most u ↔ ∃ i, 1 ≤ i ∧ i < u.length + 1 ∧ F (u.take i) = true ∧ TP F (least - 1) (if most > 0 then most - 1 else most) (u.drop i) := by
  constructor
  · rintro ⟨n, h1, h2, h3⟩
    obtain ⟨x, y, n', rfl, g1, g2, rfl, g3⟩ := pw_first n u hu h3
    have hxl : 0 < x.length := List.length_pos_iff.2 g1
    refine ⟨x.length, hxl, by rw [List.length_append]; omega, by rw [List.take_left]; exact g2, n', by omega, ?_, by rw [List.drop_left]; exact g3⟩
    split <;> omega
  · rintro ⟨i, h1, h2, h3, n', g1, g2, g3⟩
    refine ⟨n' + 1, by omega, ?_, ?_⟩
    · split at g2 <;> omega
    · rw [pwL_left]
      exact (catL_iff _ _ _).2 ⟨u.take i, u.drop i, (List.take_append_drop i u).symm, h3, g3⟩
open Classical in
theorem times_eq (m : Nat) (hm : 1000 ≤ m) (B : Nat) (F : P24 → Lg) (q : P24) (hq : HK m B F q) : ∀ (L : Nat) (R : Nat) (least most : Int) (u : List Int), u.length ≤ L → L ≤ 30 → L + 1 + B ≤ R → (most < 0 ∨ least ≤ most) → most ≤ 9 → -1 ≤ most → least ≤ 9 → -100 + (L : Int) ≤ least →
    (K19 m R).r36 q.vw least most u = some (decide (TP (F q) least most u))
  | L, 0, least, most, u, h1, h2, h3, _, _, _, _, _ => by omega
  | L, R + 1, least, most, u, h1, h2, h3, h4, h5, h6, h7, h8 => by
    show b36 m (K19 m R) q.vw least most u = _
    unfold b36
    by_cases hu : u = []
    · subst hu
      rw [show (((([] : List Int).length : Nat) : Int) == 0) = true from rfl, cnd_true]
      by_cases hl : least ≤ 0
      · have : TP (F q) least most [] := ⟨0, by omega, by omega, rfl⟩
        rw [decide_eq_true hl, cnd_true, bnd_some', decide_eq_true this]
        rfl
      · rw [decide_eq_false hl, cnd_false, hq R [] (by omega) (by simp), bnd_some', bnd_some']
        show some (F q []) = _
        congr 1
        rw [Bool.eq_iff_iff, decide_eq_true_eq]
        constructor
        · intro h
          exact ⟨least.toNat, by omega, by omega, pw_nil h _⟩
        · rintro ⟨n, g1, g2, g3⟩
          obtain ⟨n', rfl⟩ : ∃ n', n = n' + 1 := ⟨n - 1, by omega⟩
          exact pw_nil_of g3
    · have hul : 0 < u.length := List.length_pos_iff.2 hu
      have e0 : ((u.length : Int) == 0) = false := by rw [beq_eq_false_iff_ne]; omega
      rw [e0, cnd_false]
      by_cases hm0 : most = 0
      · subst hm0
        have : ¬ TP (F q) least 0 u := by
          rintro ⟨n, g1, g2, g3⟩
          have : n = 0 := by omega
          subst this
          exact hu ((oneL_iff u).1 g3)
        rw [show ((0 : Int) == 0) = true from rfl, cnd_true, decide_eq_false this]
      · have e1 : (most == 0) = false := by rw [beq_eq_false_iff_ne]; exact hm0
        rw [e1, cnd_false]
        obtain ⟨L, rfl⟩ : ∃ L', L = L' + 1 := ⟨L - 1, by omega⟩
        have hw1 : w64 (least - 1) = least - 1 := w64_id ⟨by omega, by omega⟩
        have hw2 : w64 (most - 1) = most - 1 := w64_id ⟨by omega, by omega⟩
        have hj : ∀ i : Nat, 1 ≤ i → i < u.length + 1 → ∀ left, left = (if most > 0 then most - 1 else most) → f36_j3 m (K19 m R) q.vw least u (i : Int) left = if (F q (u.take i) && decide (TP (F q) (least - 1) (if most > 0 then most - 1 else most) (u.drop i))) = true then some (.ret true) else some (.nxt ((i + 1 : Nat) : Int)) := by
          intro i hi1 hi left hleft
          have hwi : w64 ((i : Int) + 1) = ((i + 1 : Nat) : Int) := by rw [w64_id ⟨by omega, by omega⟩]; omega
          have s1 : sub u 0 (i : Int) = some (u.take i) := by unfold sub; rw [if_pos (by omega)]; simp
          have s2 : sub u (i : Int) (u.length : Int) = some (u.drop i) := by unfold sub; rw [if_pos (by omega)]; simp only [Int.toNat_natCast]; rw [List.take_of_length_le (by simp)]
          have g1 := hq R (u.take i) (by omega) (by rw [List.length_take]; omega)
          have g2 := times_eq m hm B F q hq L R (least - 1) left (u.drop i) (by rw [List.length_drop]; omega) (by omega) (by omega) (by rw [hleft]; split <;> omega) (by rw [hleft]; split <;> omega) (by rw [hleft]; split <;> omega) (by omega) (by omega)
          rw [← hleft]
          unfold f36_j3
          rw [s1, bnd_some', g1, bnd_some']
          unfold f36_r2
          cases F q (u.take i) with
          | false => rw [cnd_false, bnd_some', cnd_false, hwi]; rfl
          | true =>
            rw [cnd_true, s2, bnd_some', hw1, g2, bnd_some', bnd_some', Bool.true_and]
            cases decide (TP (F q) (least - 1) left (u.drop i)) with
            | false => rw [cnd_false, hwi]; rfl
            | true => rw [cnd_true]; rfl
        have hB : ∀ i : Nat, 1 ≤ i → i < u.length + 1 → f36_B4 m (K19 m R) q.vw least most u (i : Int) = if (F q (u.take i) && decide (TP (F q) (least - 1) (if most > 0 then most - 1 else most) (u.drop i))) = true then some (.ret true) else some (.nxt ((i + 1 : Nat) : Int)) := by
          intro i hi1 hi
          unfold f36_B4
          rw [decide_eq_true (by omega : (i : Int) ≤ (u.length : Int)), cnd_true]
          by_cases hp : most > 0
          · rw [decide_eq_true hp, cnd_true, hw2]
            exact hj i hi1 hi _ (by rw [if_pos hp])
          · rw [decide_eq_false hp, cnd_false]
            exact hj i hi1 hi _ (by rw [if_neg hp])
        have hE : f36_B4 m (K19 m R) q.vw least most u ((u.length + 1 : Nat) : Int) = some (.brk ((u.length + 1 : Nat) : Int)) := by
          unfold f36_B4
          rw [decide_eq_false (by omega), cnd_false]
        rcases any_loop _ _ (u.length + 1) 1 hB hE m 1 (Nat.le_refl _) (by omega) (by omega) with ⟨g1, k, g2, g3, g4⟩ | ⟨g1, g2⟩
        · have g1 : iter (fun (y : Int) => f36_B4 m (K19 m R) q.vw least most u y) m 1 = some (.inl true) := g1
          rw [Bool.and_eq_true, decide_eq_true_eq] at g4
          rw [g1, decide_eq_true ((TP_step hu hm0).2 ⟨k, g2, g3, g4.1, g4.2⟩)]
          rfl
        · have g1 : iter (fun (y : Int) => f36_B4 m (K19 m R) q.vw least most u y) m 1 = some (.inr ((u.length + 1 : Nat) : Int)) := g1
          have : ¬ TP (F q) least most u := fun h => by
            obtain ⟨i, c1, c2, c3, c4⟩ := (TP_step hu hm0).1 h
            have := g2 i c1 c2
            rw [c3, decide_eq_true c4] at this
            cases this
          rw [g1, decide_eq_false this]
          rfl
open Classical in
theorem times_ex (m : Nat) (hm : 1000 ≤ m) (B : Nat) (F : P24 → Lg) (q : P24) (hq : HK m B F q) (R : Nat) (least most : Int) (u : List Int) (h1 : u.length ≤ 30) (h3 : 31 + B ≤ R) (h4 : most < 0 ∨ least ≤ most) (h5 : most ≤ 9) (h6 : -1 ≤ most) (h7 : least ≤ 9) (h8 : 0 ≤ least) :
    ∃ b, (K19 m R).r36 q.vw least most u = some b ∧ (b = true ↔ TP (F q) least most u) :=
  ⟨_, times_eq m hm B F q hq 30 R least most u h1 (Nat.le_refl _) (by omega) h4 h5 h6 h7 (by omega), decide_eq_true_iff⟩
instance (x : Int) : Decidable (okC x) := by unfold okC; infer_instance
def labE : Option Int → List Int → Int
  | _, [] => 0
  | l, x :: r => if okC x then (if l.any (fun y => decide (x ≤ y)) = true then 13 else labE (some x) r) else 3
def lastAt (l : List Int) : Nat → Option Int
  | 0 => none
  | i + 1 => l[i]?
theorem lab_gen {R : Type} (l : List Int) (B : Int → Option (Stp R Int)) (rf : Int → R)
    (hB : ∀ (i : Nat) (x : Int), l[i]? = some x → B (i : Int) = if okC x then (if (lastAt l i).any (fun y => decide (x ≤ y)) = true then some (.ret (rf 13)) else some (.nxt ((i + 1 : Nat) : Int))) else some (.ret (rf 3)))
    (hE : B (l.length : Int) = some (.brk (l.length : Int))) : ∀ (M i : Nat), i ≤ l.length → l.length < M + i →
    iter B M (i : Int) = some (if labE (lastAt l i) (l.drop i) = 0 then .inr (l.length : Int) else .inl (rf (labE (lastAt l i) (l.drop i))))
  | 0, i, h1, h2 => by omega
  | M + 1, i, h1, h2 => by
    unfold iter
    rcases Nat.lt_or_ge i l.length with hlt | hge
    · have hx := List.getElem?_eq_getElem hlt
      rw [hB i _ hx, List.drop_eq_getElem_cons hlt]
      unfold labE
      by_cases h3 : okC l[i]
      · rw [if_pos h3, if_pos h3]
        by_cases h4 : (lastAt l i).any (fun y => decide (l[i] ≤ y)) = true
        · rw [if_pos h4, if_pos h4]
          rfl
        · rw [if_neg h4, if_neg h4]
          have ih := lab_gen l B rf hB hE M (i + 1) hlt (by omega)
          have hl : lastAt l (i + 1) = some l[i] := hx
          rw [hl] at ih
          exact ih
      · rw [if_neg h3, if_neg h3]
        rfl
    · have : i = l.length := by omega
      subst this
      rw [hE, List.drop_length]
      rfl
theorem f37_dec (m : Nat) (x : Int) : f37 m x = some (decide (okC x)) := by
  obtain ⟨b, h1, h2⟩ := f37_eq m x
  rw [h1]
  cases b with
  | true => rw [decide_eq_true (h2.1 rfl)]
  | false => rw [decide_eq_false fun h => by have := h2.2 h; cases this]
theorem f42_eq (m : Nat) (x : Int) : f42 m x = some ((decide (x ≥ 0) && decide (x < 55296)) || (decide (x > 57343) && decide (x ≤ 1114111))) := rfl
theorem bool_ok (x : Int) : (if decide (x < 1) = true then some true else some (!((decide (x ≥ 0) && decide (x < 55296)) || (decide (x > 57343) && decide (x ≤ 1114111))))) = some (!(decide (okC x))) := by
  by_cases h : x < 1
  · rw [if_pos (decide_eq_true h), decide_eq_false (by unfold okC; omega)]
    rfl
  · rw [if_neg (by simpa using h)]
    congr 2
    rw [Bool.eq_iff_iff]
    simp only [Bool.or_eq_true, Bool.and_eq_true, decide_eq_true_eq]
    unfold okC
    omega
def SubsOk (p : S24) : Prop := (p.fKind = 1 ∨ p.fKind = 2) ∧ p.fSubs.length = 0 ∨ (p.fKind = 3 ∨ p.fKind = 4) ∧ 2 ≤ p.fSubs.length ∨ p.fKind = 5 ∧ p.fSubs.length = 1 ∨ (p.fKind = 6 ∨ p.fKind = 7) ∧ p.fSubs.length = 2
def LabsOk (p : S24) : Prop := (p.fKind = 2 ∧ 0 < p.fLabels.length ∨ p.fKind ≠ 2 ∧ p.fLabels.length = 0) ∧ p.fLabels.length ≤ 300
instance (p : S24) : Decidable (SubsOk p) := by unfold SubsOk; infer_instance
instance (p : S24) : Decidable (LabsOk p) := by unfold LabsOk; infer_instance
def repE (p : S24) : Int :=
  if p.fKind = 5 then (if p.fLeast < 0 ∨ p.fLeast > 9 ∨ p.fMost < -1 ∨ p.fMost > 9 then 3 else if 0 ≤ p.fMost ∧ p.fMost < p.fLeast then 13 else 0)
  else if p.fLeast ≠ 0 ∨ p.fMost ≠ 0 then 5 else 0
def nodeE (p : S24) : Int :=
  if p.fKind < 1 ∨ 7 < p.fKind then 4 else if ¬ (SubsOk p ∧ LabsOk p) then 9 else if labE none p.fLabels ≠ 0 then labE none p.fLabels else repE p
theorem lab26 (m : Nat) (p : S24) (hl : p.fLabels.length ≤ 300) (hm : 1000 ≤ m) : iter (fun (y : Int) => f26_B3 m p y) m 0 = some (if labE none p.fLabels = 0 then .inr (p.fLabels.length : Int) else .inl (labE none p.fLabels)) := by
  refine lab_gen p.fLabels _ id (fun i x hx => ?_) ?_ m 0 (Nat.zero_le _) (by omega)
  · have hlt : i < p.fLabels.length := (List.getElem?_eq_some_iff.1 hx).1
    have e1 : idx p.fLabels (i : Int) = some x := by simp [idx, hx]
    have hwi : w64 ((i : Int) + 1) = ((i + 1 : Nat) : Int) := by rw [w64_id ⟨by omega, by omega⟩]; omega
    unfold f26_B3
    rw [decide_eq_true (by omega : (i : Int) < (p.fLabels.length : Int)), cnd_true, e1, bnd_some', f42_eq, bnd_some']
    have hb := bool_ok x
    have hc : (cnd (decide (x < 1)) (some true) (some (!((decide (x ≥ 0) && decide (x < 55296)) || (decide (x > 57343) && decide (x ≤ 1114111)))))) = some (!(decide (okC x))) := by
      rw [← hb]
      cases decide (x < 1) <;> rfl
    rw [hc, bnd_some']
    unfold f26_r2
    by_cases h3 : okC x
    · rw [decide_eq_true h3, if_pos h3, Bool.not_true, cnd_false]
      cases i with
      | zero =>
        rw [decide_eq_false (by omega : ¬ (((0 : Nat) : Int) > 0)), cnd_false, bnd_some']
        unfold f26_r1
        rw [cnd_false, hwi]
        rfl
      | succ j =>
        have e0 : w64 (((j + 1 : Nat) : Int) - 1) = (j : Int) := by rw [w64_id ⟨by omega, by omega⟩]; omega
        have hj : j < p.fLabels.length := by omega
        have e2 : idx p.fLabels (j : Int) = some p.fLabels[j] := by simp [idx, List.getElem?_eq_getElem hj]
        have e3 : lastAt p.fLabels (j + 1) = some p.fLabels[j] := List.getElem?_eq_getElem hj
        rw [decide_eq_true (by omega : (((j + 1 : Nat) : Int) > 0)), cnd_true, e0, e2, bnd_some', bnd_some', e3]
        unfold f26_r1
        show cnd (decide (x ≤ p.fLabels[j])) _ _ = if decide (x ≤ p.fLabels[j]) = true then _ else _
        rw [hwi]
        cases decide (x ≤ p.fLabels[j]) <;> rfl
    · rw [decide_eq_false h3, if_neg h3]
      rfl
  · unfold f26_B3
    rw [decide_eq_false (by omega), cnd_false]
theorem j13_eq (m : Nat) (hm : 1000 ≤ m) (p : S24) (hk : ¬ (p.fKind < 1 ∨ 7 < p.fKind)) (v1 v2 : Bool) (hv : v1 = true ↔ SubsOk p) : f26_j13 m p v1 v2 = some (nodeE p) := by
  unfold f26_j13 f26_r12 f26_r11 f26_r10 nodeE
  rw [if_neg hk]
  by_cases hs : SubsOk p ∧ LabsOk p
  · have hb : (((((p.fKind == 2) && ((p.fLabels.length : Int) == 0)) || ((p.fKind != 2) && (decide ((p.fLabels.length : Int) > 0)))) || (decide ((p.fLabels.length : Int) > 300))) || (!v1)) = false := by
      rw [hv.2 hs.1]
      obtain ⟨h1, h2⟩ := hs.2
      simp only [Bool.or_eq_false_iff, Bool.and_eq_false_iff, beq_eq_false_iff_ne, bne_eq_false_iff_eq, decide_eq_false_iff_not, ne_eq, Bool.not_true, and_true]
      omega
    rw [hb, if_neg (by simpa using hs)]
    unfold f26_r9
    rw [cnd_false, lab26 m p hs.2.2 hm]
    by_cases h0 : labE none p.fLabels = 0
    · rw [if_pos h0, if_neg (by simpa using h0)]
      show cnd (p.fKind != 5) _ _ = _
      unfold repE
      by_cases h5 : p.fKind = 5
      · have e5 : (p.fKind != 5) = false := by simpa using h5
        rw [e5, cnd_false, if_pos h5]
        unfold f26_r8 f26_r7 f26_r6 f26_r5
        by_cases hr : p.fLeast < 0 ∨ p.fLeast > 9 ∨ p.fMost < -1 ∨ p.fMost > 9
        · have : (((decide (p.fLeast < 0) || decide (p.fLeast > 9)) || decide (p.fMost < -1)) || decide (p.fMost > 9)) = true := by
            simp only [Bool.or_eq_true, decide_eq_true_eq]; omega
          rw [this, cnd_true, if_pos hr]
        · have : (((decide (p.fLeast < 0) || decide (p.fLeast > 9)) || decide (p.fMost < -1)) || decide (p.fMost > 9)) = false := by
            simp only [Bool.or_eq_false_iff, decide_eq_false_iff_not]; omega
          rw [this, cnd_false, if_neg hr]
          by_cases ho : 0 ≤ p.fMost ∧ p.fMost < p.fLeast
          · have : ((p.fMost != -1) && decide (p.fMost < p.fLeast)) = true := by simp only [Bool.and_eq_true, bne_iff_ne, ne_eq, decide_eq_true_eq]; omega
            rw [this, cnd_true, if_pos ho]
          · have : ((p.fMost != -1) && decide (p.fMost < p.fLeast)) = false := by
              rw [Bool.and_eq_false_iff, bne_eq_false_iff_eq, decide_eq_false_iff_not]; omega
            rw [this, cnd_false, if_neg ho]
      · have e5 : (p.fKind != 5) = true := by simpa using h5
        rw [e5, cnd_true, if_neg h5]
        unfold f26_r4
        by_cases hz : p.fLeast ≠ 0 ∨ p.fMost ≠ 0
        · have : ((p.fLeast != 0) || (p.fMost != 0)) = true := by
            simp only [Bool.or_eq_true, bne_iff_ne, ne_eq]; omega
          rw [this, cnd_true, if_pos hz]
        · have : ((p.fLeast != 0) || (p.fMost != 0)) = false := by
            simp only [Bool.or_eq_false_iff, bne_eq_false_iff_eq]; omega
          rw [this, cnd_false, if_neg hz]
    · rw [if_neg h0, if_pos (by simpa using h0)]
      rfl
  · have hb : (((((p.fKind == 2) && ((p.fLabels.length : Int) == 0)) || ((p.fKind != 2) && (decide ((p.fLabels.length : Int) > 0)))) || (decide ((p.fLabels.length : Int) > 300))) || (!v1)) = true := by
      by_cases h1 : SubsOk p
      · have h2 : ¬ LabsOk p := fun h => hs ⟨h1, h⟩
        unfold LabsOk at h2
        simp only [Bool.or_eq_true, Bool.and_eq_true, beq_iff_eq, bne_iff_ne, decide_eq_true_eq, ne_eq]
        omega
      · have : v1 = false := by
          cases v1 with
          | false => rfl
          | true => exact (h1 (hv.1 rfl)).elim
        rw [this]
        simp
    rw [hb, if_pos hs]
    rfl
theorem f26_eq (m : Nat) (hm : 1000 ≤ m) (p : S24) : f26 m p = some (nodeE p) := by
  have kb : ∀ z : Int, p.fKind = z → ((p.fKind == z) = true) := fun z h => by simpa using h
  have nk : ∀ z : Int, p.fKind ≠ z → ((p.fKind == z) = false) := fun z h => by simpa using h
  have hlen : ∀ z : Nat, (((p.fSubs.length : Int) == (z : Int)) = true ↔ p.fSubs.length = z) := fun z => by simp only [beq_iff_eq]; omega
  unfold f26
  by_cases k1 : p.fKind = 1
  · rw [kb 1 k1, cnd_true]
    exact j13_eq m hm p (by omega) ((p.fSubs.length : Int) == 0) true ((hlen 0).trans (by unfold SubsOk; omega))
  rw [nk 1 k1, cnd_false]
  by_cases k2 : p.fKind = 2
  · rw [kb 2 k2]
    exact j13_eq m hm p (by omega) ((p.fSubs.length : Int) == 0) true ((hlen 0).trans (by unfold SubsOk; omega))
  rw [nk 2 k2]
  unfold f26_j19
  rw [cnd_false]
  have h34 : (p.fKind = 3 ∨ p.fKind = 4) → f26_j18 m p false true = some (nodeE p) := fun h =>
    j13_eq m hm p (by omega) (decide ((p.fSubs.length : Int) ≥ 2)) false (by simp only [decide_eq_true_eq]; unfold SubsOk; omega)
  by_cases k3 : p.fKind = 3
  · rw [kb 3 k3, cnd_true]
    exact h34 (.inl k3)
  rw [nk 3 k3, cnd_false]
  by_cases k4 : p.fKind = 4
  · rw [kb 4 k4]
    exact h34 (.inr k4)
  rw [nk 4 k4]
  unfold f26_j18
  rw [cnd_false]
  by_cases k5 : p.fKind = 5
  · rw [kb 5 k5, cnd_true]
    exact j13_eq m hm p (by omega) ((p.fSubs.length : Int) == 1) false ((hlen 1).trans (by unfold SubsOk; omega))
  rw [nk 5 k5, cnd_false]
  have h67 : (p.fKind = 6 ∨ p.fKind = 7) → f26_j17 m p false true = some (nodeE p) := fun h =>
    j13_eq m hm p (by omega) ((p.fSubs.length : Int) == 2) false ((hlen 2).trans (by unfold SubsOk; omega))
  by_cases k6 : p.fKind = 6
  · rw [kb 6 k6, cnd_true]
    exact h67 (.inl k6)
  rw [nk 6 k6, cnd_false]
  by_cases k7 : p.fKind = 7
  · rw [kb 7 k7]
    exact h67 (.inr k7)
  rw [nk 7 k7]
  unfold nodeE
  rw [if_pos (by omega)]
  rfl
def subsS (F : Nat → P24 → S27 × Nat) : List P24 → Nat → S27 × Nat
  | [], k => (⟨0, 0⟩, k)
  | q :: s, k => if (F k q).1.fCode ≠ 0 then F k q else subsS F s (F k q).2
theorem subsS_cons {F : Nat → P24 → S27 × Nat} (q : P24) (s : List P24) (k : Nat) : subsS F (q :: s) k = if (F k q).1.fCode ≠ 0 then F k q else subsS F s (F k q).2 := rfl
noncomputable def valS : Nat → Nat → S24 → S27 × Nat
  | 0, k, _ => (⟨2, (k : Int)⟩, k + 1)
  | r + 1, k, p => if 200 ≤ k then (⟨2, (k : Int)⟩, k + 1) else if nodeE p ≠ 0 then (⟨nodeE p, (k : Int)⟩, k + 1) else subsS (fun k q => valS r k q.vw) p.fSubs (k + 1)
def Fine (k : Nat) (o : S27 × Nat) : Prop := (o.1 = (⟨0, 0⟩ : S27) ∧ k ≤ o.2 ∧ o.2 ≤ 200) ∨ o.1.fCode ≠ 0
theorem subsS_fine {F : Nat → P24 → S27 × Nat} (hF : ∀ k q, k ≤ 200 → Fine (k + 1) (F k q)) : ∀ (l : List P24) (k : Nat), k ≤ 200 → Fine (k + l.length) (subsS F l k)
  | [], k, hk => .inl ⟨rfl, Nat.le_refl _, hk⟩
  | q :: s, k, hk => by
    unfold subsS
    rcases hF k q hk with ⟨h1, h2, h3⟩ | h
    · have h0 : ¬ (F k q).1.fCode ≠ 0 := by rw [h1]; simp
      rw [if_neg h0]
      rcases subsS_fine hF s (F k q).2 h3 with ⟨g1, g2, g3⟩ | g
      · exact .inl ⟨g1, by rw [List.length_cons]; omega, g3⟩
      · exact .inr g
    · rw [if_pos h]
      exact .inr h
theorem valS_fine : ∀ (r k : Nat) (p : S24), k ≤ 200 → Fine (k + 1) (valS r k p)
  | 0, k, p, _ => .inr (by unfold valS; simp)
  | r + 1, k, p, hk => by
    unfold valS
    split
    · exact .inr (by simp)
    · split
      · rename_i h
        exact .inr h
      · rcases subsS_fine (F := fun k q => valS r k q.vw) (fun k q h => valS_fine r k q.vw h) p.fSubs (k + 1) (by omega) with ⟨h1, h2, h3⟩ | h
        · exact .inl ⟨h1, by omega, h3⟩
        · exact .inr h
theorem subsS_app {F : Nat → P24 → S27 × Nat} : ∀ (a b : List P24) (k : Nat), subsS F (a ++ b) k = if (subsS F a k).1.fCode ≠ 0 then subsS F a k else subsS F b (subsS F a k).2
  | [], b, k => by
    have : ¬ ((subsS F [] k).1.fCode ≠ 0) := by unfold subsS; simp
    rw [if_neg this]; rfl
  | q :: a, b, k => by
    rw [List.cons_append, subsS_cons, subsS_cons]
    by_cases h : (F k q).1.fCode ≠ 0
    · rw [if_pos h, if_pos h, if_pos h]
    · rw [if_neg h, if_neg h]
      exact subsS_app a b _
theorem subsS_take {F : Nat → P24 → S27 × Nat} (hF : ∀ k q, k ≤ 200 → Fine (k + 1) (F k q)) (l : List P24) (k : Nat) (hk : k ≤ 200) : subsS F (l.take 201) k = subsS F l k := by
  rcases Nat.lt_or_ge 201 l.length with h | h
  · have e : subsS F l k = subsS F (l.take 201 ++ l.drop 201) k := by rw [List.take_append_drop]
    rw [e, subsS_app]
    have hl : (l.take 201).length = 201 := by rw [List.length_take]; omega
    rcases subsS_fine hF (l.take 201) k hk with ⟨_, h2, h3⟩ | h1
    · omega
    · rw [if_pos h1]
  · rw [List.take_of_length_le h]
theorem lab21 (m : Nat) (K : Rec21) (k : Nat) (hk : k < 1000) (p : S24) (hl : p.fLabels.length ≤ 300) (hm : 1000 ≤ m) : iter (fun (y : Int) => f21_B2 m K (⟨(k : Int)⟩ : S45) p y) m 0 =
    some (if labE none p.fLabels = 0 then .inr (p.fLabels.length : Int) else .inl ((⟨labE none p.fLabels, (k : Int)⟩ : S27), (⟨((k + 1 : Nat) : Int)⟩ : S45))) := by
  have hwk : w64 ((k : Int) + 1) = ((k + 1 : Nat) : Int) := by rw [w64_id ⟨by omega, by omega⟩]; omega
  refine lab_gen p.fLabels _ (fun c => ((⟨c, (k : Int)⟩ : S27), (⟨((k + 1 : Nat) : Int)⟩ : S45))) (fun i x hx => ?_) ?_ m 0 (Nat.zero_le _) (by omega)
  · have hlt : i < p.fLabels.length := (List.getElem?_eq_some_iff.1 hx).1
    have e1 : idx p.fLabels (i : Int) = some x := by simp [idx, hx]
    have hwi : w64 ((i : Int) + 1) = ((i + 1 : Nat) : Int) := by rw [w64_id ⟨by omega, by omega⟩]; omega
    unfold f21_B2
    rw [decide_eq_true (by omega : (i : Int) < (p.fLabels.length : Int)), cnd_true, e1, bnd_some', f37_dec, bnd_some']
    dsimp only
    rw [hwk]
    by_cases h3 : okC x
    · rw [decide_eq_true h3, if_pos h3, Bool.not_true, cnd_false]
      cases i with
      | zero =>
        rw [decide_eq_false (by omega : ¬ (((0 : Nat) : Int) > 0)), cnd_false, bnd_some']
        unfold f21_r1
        rw [cnd_false, hwi]
        rfl
      | succ j =>
        have e0 : w64 (((j + 1 : Nat) : Int) - 1) = (j : Int) := by rw [w64_id ⟨by omega, by omega⟩]; omega
        have hj : j < p.fLabels.length := by omega
        have e2 : idx p.fLabels (j : Int) = some p.fLabels[j] := by simp [idx, List.getElem?_eq_getElem hj]
        have e3 : lastAt p.fLabels (j + 1) = some p.fLabels[j] := List.getElem?_eq_getElem hj
        rw [decide_eq_true (by omega : (((j + 1 : Nat) : Int) > 0)), cnd_true, e0, e2, bnd_some', bnd_some', e3]
        unfold f21_r1
        show cnd (decide (x ≤ p.fLabels[j])) _ _ = if decide (x ≤ p.fLabels[j]) = true then _ else _
        dsimp only
        rw [hwi, hwk]
        cases decide (x ≤ p.fLabels[j]) <;> rfl
    · rw [decide_eq_false h3, if_neg h3]
      rfl
  · unfold f21_B2
    rw [decide_eq_false (by omega), cnd_false]
def out (o : S27 × Nat) : S27 × S45 := (o.1, (⟨(o.2 : Int)⟩ : S45))
theorem subs21 (m : Nat) (K : Rec21) (F : Nat → P24 → S27 × Nat) (hF : ∀ k q, k ≤ 200 → Fine (k + 1) (F k q)) (p : S24) (d : Int) (hd : 0 ≤ d ∧ d ≤ 40)
    (hK : ∀ (q : P24) (k : Nat), k ≤ 200 → K.r21 (⟨(k : Int)⟩ : S45) q.vw (d + 1) = some (out (F k q))) : ∀ (M i k : Nat), i ≤ p.fSubs.length → i ≤ k → k ≤ 200 → 201 - k < M →
    ∃ z : Int × Int, iter (fun (y : Int × Int) => f21_B3 m K p d y.1 y.2) M ((i : Int), (k : Int)) = some (if (subsS F (p.fSubs.drop i) k).1.fCode ≠ 0 then .inl (out (subsS F (p.fSubs.drop i) k)) else .inr z) ∧ z.2 = ((subsS F (p.fSubs.drop i) k).2 : Int)
  | 0, i, k, _, _, _, h => by omega
  | M + 1, i, k, h1, hik, h2, h3 => by
    have hwd : w64 (d + 1) = d + 1 := w64_id ⟨by omega, by omega⟩
    have hwi : w64 ((i : Int) + 1) = ((i + 1 : Nat) : Int) := by rw [w64_id ⟨by omega, by omega⟩]; omega
    unfold iter
    dsimp only
    rcases Nat.lt_or_ge i p.fSubs.length with hlt | hge
    · have hx := List.getElem?_eq_getElem hlt
      have e1 : idx p.fSubs (i : Int) = some p.fSubs[i] := by simp [idx, hx]
      have hB : f21_B3 m K p d (i : Int) (k : Int) = if (F k p.fSubs[i]).1.fCode ≠ 0 then some (.ret (out (F k p.fSubs[i]))) else some (.nxt (((i + 1 : Nat) : Int), ((F k p.fSubs[i]).2 : Int))) := by
        unfold f21_B3
        rw [hwd, decide_eq_true (by omega : (i : Int) < (p.fSubs.length : Int)), cnd_true, e1, bnd_some', hK _ k h2, bnd_some', hwi]
        rcases hF k p.fSubs[i] h2 with ⟨g1, g2, g3⟩ | g
        · have h0 : ¬ (F k p.fSubs[i]).1.fCode ≠ 0 := by rw [g1]; simp
          have : (!(((out (F k p.fSubs[i])).1.fCode == 0) && (((out (F k p.fSubs[i])).1.fIndex == 0) && true))) = false := by
            show (!(((F k p.fSubs[i]).1.fCode == 0) && (((F k p.fSubs[i]).1.fIndex == 0) && true))) = false
            rw [g1]; rfl
          rw [this, cnd_false, if_neg h0]
          rfl
        · have : (!(((out (F k p.fSubs[i])).1.fCode == 0) && (((out (F k p.fSubs[i])).1.fIndex == 0) && true))) = true := by
            have : ((out (F k p.fSubs[i])).1.fCode == 0) = false := by simpa [out] using g
            rw [this]; rfl
          rw [this, cnd_true, if_pos g]
      rw [hB, List.drop_eq_getElem_cons hlt]
      unfold subsS
      rcases hF k p.fSubs[i] h2 with ⟨g1, g2, g3⟩ | g
      · have h0 : ¬ (F k p.fSubs[i]).1.fCode ≠ 0 := by rw [g1]; simp
        rw [if_neg h0, if_neg h0]
        exact subs21 m K F hF p d hd hK M (i + 1) _ hlt (by omega) g3 (by omega)
      · rw [if_pos g, if_pos g]
        refine ⟨((i : Int), ((F k p.fSubs[i]).2 : Int)), ?_, rfl⟩
        rw [if_pos g]
    · have : i = p.fSubs.length := by omega
      subst this
      have hB : f21_B3 m K p d (p.fSubs.length : Int) (k : Int) = some (.brk ((p.fSubs.length : Int), (k : Int))) := by
        unfold f21_B3
        rw [decide_eq_false (by omega), cnd_false]
      rw [hB, List.drop_length]
      have h0 : ¬ ((subsS F [] k).1.fCode ≠ 0) := by unfold subsS; simp
      refine ⟨((p.fSubs.length : Int), (k : Int)), ?_, rfl⟩
      rw [if_neg h0]
theorem chkX (m : Nat) (hm : 1000 ≤ m) : ∀ (r R : Nat) (d : Int) (k : Nat) (p : S24), r < R → d + r = 41 → 0 ≤ d → k ≤ 200 → (K21 m R).r21 (⟨(k : Int)⟩ : S45) p d = some (out (valS r k p))
  | r, 0, d, k, p, h, _, _, _ => by omega
  | 0, R + 1, d, k, p, h1, h2, h3, h4 => by
    have hwk : w64 ((k : Int) + 1) = ((k + 1 : Nat) : Int) := by rw [w64_id ⟨by omega, by omega⟩]; omega
    show b21 m (K21 m R) (⟨(k : Int)⟩ : S45) p d = _
    unfold b21 f21_r19
    have : decide (d > 40) = true := decide_eq_true (by omega)
    rw [this, Bool.or_true, cnd_true]
    show some ((⟨2, (k : Int)⟩ : S27), (⟨w64 ((k : Int) + 1)⟩ : S45)) = _
    rw [hwk]
    rfl
  | r + 1, R + 1, d, k, p, h1, h2, h3, h4 => by
    have hwk : w64 ((k : Int) + 1) = ((k + 1 : Nat) : Int) := by rw [w64_id ⟨by omega, by omega⟩]; omega
    show b21 m (K21 m R) (⟨(k : Int)⟩ : S45) p d = _
    unfold b21 valS
    have flt : ∀ c : Int, (bnd (f23 m c (⟨(k : Int)⟩ : S45).fNodes) fun v => some ((v, (⟨w64 ((⟨(k : Int)⟩ : S45).fNodes + 1)⟩ : S45)))) = some (out ((⟨c, (k : Int)⟩ : S27), k + 1)) := by
      intro c
      show some ((⟨c, (k : Int)⟩ : S27), (⟨w64 ((k : Int) + 1)⟩ : S45)) = _
      rw [hwk]
      rfl
    by_cases hk : 200 ≤ k
    · have : decide (w64 ((⟨(k : Int)⟩ : S45).fNodes + 1) > 200) = true := decide_eq_true (by show w64 ((k : Int) + 1) > 200; rw [hwk]; omega)
      rw [this, Bool.true_or, if_pos hk]
      unfold f21_r19
      rw [cnd_true]
      exact flt 2
    rw [if_neg hk]
    have e1 : decide (w64 ((⟨(k : Int)⟩ : S45).fNodes + 1) > 200) = false := decide_eq_false (by show ¬ w64 ((k : Int) + 1) > 200; rw [hwk]; omega)
    have e2 : decide (d > 40) = false := decide_eq_false (by omega)
    rw [e1, e2, Bool.or_false]
    have subs : f21_j4 m (K21 m R) (⟨(k : Int)⟩ : S45) p d = some (out (subsS (fun k q => valS r k q.vw) p.fSubs (k + 1))) := by
      unfold f21_j4
      show brk (iter _ m (0, w64 ((k : Int) + 1))) _ _ = _
      rw [hwk]
      obtain ⟨z, q1, q2⟩ := subs21 m (K21 m R) (fun k q => valS r k q.vw) (fun k q h => valS_fine r k q.vw h) p d ⟨h3, by omega⟩ (fun q k' hk' => chkX m hm r R (d + 1) k' q.vw (by omega) (by omega) (by omega) hk') m 0 (k + 1) (Nat.zero_le _) (Nat.zero_le _) (by omega) (by omega)
      have q1 : iter (fun (y : Int × Int) => f21_B3 m (K21 m R) p d y.1 y.2) m (0, ((k + 1 : Nat) : Int)) = _ := q1
      rw [q1]
      rw [List.drop_zero] at q2 ⊢
      have hf := subsS_fine (F := fun k q => valS r k q.vw) (fun k q h => valS_fine r k q.vw h) p.fSubs (k + 1) (by omega)
      generalize subsS (fun k q => valS r k q.vw) p.fSubs (k + 1) = o at *
      rcases hf with ⟨g1, g2, g3⟩ | g
      · have h0 : ¬ (o.1.fCode ≠ 0) := by rw [g1]; simp
        rw [if_neg h0]
        show some ((⟨0, 0⟩ : S27), (⟨z.2⟩ : S45)) = _
        rw [q2]
        unfold out
        rw [g1]
      · rw [if_pos g]
        rfl
    have counts : ∀ (c : Int) (b : Bool), ¬ (p.fKind < 1 ∨ 7 < p.fKind) → ((p.fSubs.length : Int) = c ↔ SubsOk p) →
        f21_j12 m (K21 m R) (⟨(k : Int)⟩ : S45) p d c b = some (out (if nodeE p ≠ 0 then (⟨nodeE p, (k : Int)⟩, k + 1) else subsS (fun k q => valS r k q.vw) p.fSubs (k + 1))) := by
      intro c b hkd hc
      unfold f21_j12 f21_r11
      have hne : nodeE p = if ¬ (SubsOk p ∧ LabsOk p) then 9 else if labE none p.fLabels ≠ 0 then labE none p.fLabels else repE p := by
        unfold nodeE; rw [if_neg hkd]
      by_cases hs : SubsOk p ∧ LabsOk p
      · have hb : (((((p.fSubs.length : Int) != c) || (!((p.fKind == 2) == (decide ((p.fLabels.length : Int) > 0))))) || decide ((p.fLabels.length : Int) > 300))) = false := by
          have c1 := hc.2 hs.1
          obtain ⟨g1, g2⟩ := hs.2
          have c2 : ((p.fKind == 2) == (decide ((p.fLabels.length : Int) > 0))) = true := by
            rcases g1 with ⟨g1, g3⟩ | ⟨g1, g3⟩
            · rw [show (p.fKind == 2) = true by simpa using g1, decide_eq_true (by omega : (p.fLabels.length : Int) > 0)]; rfl
            · rw [show (p.fKind == 2) = false by simpa using g1, decide_eq_false (by omega : ¬ (p.fLabels.length : Int) > 0)]; rfl
          rw [c2, decide_eq_false (by omega : ¬ (p.fLabels.length : Int) > 300), show ((p.fSubs.length : Int) != c) = false by simpa using c1]
          rfl
        rw [hb]
        rw [if_neg (by simpa using hs)] at hne
        unfold f21_r10
        rw [cnd_false, lab21 m (K21 m R) k (by omega) p hs.2.2 hm]
        by_cases h0 : labE none p.fLabels = 0
        · rw [if_neg (by simpa using h0)] at hne
          rw [if_pos h0, brk_inr, hne]
          unfold repE
          by_cases h5 : p.fKind = 5
          · have e5 : (p.fKind == 5) = true := by simpa using h5
            rw [e5, cnd_true, if_pos h5]
            unfold f21_r8 f21_r7 f21_r6 f21_r5
            by_cases hr : p.fLeast < 0 ∨ p.fLeast > 9 ∨ p.fMost < -1 ∨ p.fMost > 9
            · have : (((decide (p.fLeast < 0) || decide (p.fLeast > 9)) || decide (p.fMost < -1)) || decide (p.fMost > 9)) = true := by
                simp only [Bool.or_eq_true, decide_eq_true_eq]; omega
              rw [this, cnd_true, if_pos hr]
              exact flt 3
            · have : (((decide (p.fLeast < 0) || decide (p.fLeast > 9)) || decide (p.fMost < -1)) || decide (p.fMost > 9)) = false := by
                simp only [Bool.or_eq_false_iff, decide_eq_false_iff_not]; omega
              rw [this, cnd_false, if_neg hr]
              by_cases ho : 0 ≤ p.fMost ∧ p.fMost < p.fLeast
              · have : (decide (p.fMost ≥ 0) && decide (p.fMost < p.fLeast)) = true := by simp only [Bool.and_eq_true, decide_eq_true_eq]; omega
                rw [this, cnd_true, if_pos ho]
                exact flt 13
              · have : (decide (p.fMost ≥ 0) && decide (p.fMost < p.fLeast)) = false := by
                  rw [Bool.and_eq_false_iff, decide_eq_false_iff_not, decide_eq_false_iff_not]; omega
                rw [this, cnd_false, if_neg ho]
                exact subs
          · have e5 : (p.fKind == 5) = false := by simpa using h5
            rw [e5, cnd_false, if_neg h5]
            unfold f21_r9
            by_cases hz : p.fLeast ≠ 0 ∨ p.fMost ≠ 0
            · have : ((p.fLeast != 0) || (p.fMost != 0)) = true := by
                simp only [Bool.or_eq_true, bne_iff_ne, ne_eq]; omega
              rw [this, cnd_true, if_pos hz]
              exact flt 5
            · have : ((p.fLeast != 0) || (p.fMost != 0)) = false := by
                simp only [Bool.or_eq_false_iff, bne_eq_false_iff_eq]; omega
              rw [this, cnd_false, if_neg hz]
              exact subs
        · rw [if_pos (by simpa using h0)] at hne
          rw [if_neg h0, hne, if_pos h0]
          rfl
      · have hb : (((((p.fSubs.length : Int) != c) || (!((p.fKind == 2) == (decide ((p.fLabels.length : Int) > 0))))) || decide ((p.fLabels.length : Int) > 300))) = true := by
          by_cases g1 : SubsOk p
          · have g2 : ¬ LabsOk p := fun h => hs ⟨g1, h⟩
            unfold LabsOk at g2
            by_cases g3 : p.fLabels.length ≤ 300
            · have c2 : ((p.fKind == 2) == (decide ((p.fLabels.length : Int) > 0))) = false := by
                by_cases g4 : p.fKind = 2
                · rw [show (p.fKind == 2) = true by simpa using g4, decide_eq_false (by omega : ¬ (p.fLabels.length : Int) > 0)]; rfl
                · rw [show (p.fKind == 2) = false by simpa using g4, decide_eq_true (by omega : (p.fLabels.length : Int) > 0)]; rfl
              rw [c2]
              simp
            · rw [decide_eq_true (by omega : (p.fLabels.length : Int) > 300)]
              simp
          · rw [show ((p.fSubs.length : Int) != c) = true by simpa using fun h => g1 (hc.1 h)]
            rfl
        rw [hb]
        rw [if_pos hs] at hne
        rw [hne]
        unfold f21_r10
        rw [cnd_true]
        exact flt 9
    have kb : ∀ z : Int, p.fKind = z → ((p.fKind == z) = true) := fun z h => by simpa using h
    have nk : ∀ z : Int, p.fKind ≠ z → ((p.fKind == z) = false) := fun z h => by simpa using h
    unfold f21_r19
    rw [cnd_false]
    by_cases k1 : p.fKind = 1
    · rw [kb 1 k1, cnd_true]
      exact counts 0 true (by omega) (by unfold SubsOk; omega)
    rw [nk 1 k1, cnd_false]
    by_cases k2 : p.fKind = 2
    · rw [kb 2 k2]
      exact counts 0 true (by omega) (by unfold SubsOk; omega)
    rw [nk 2 k2]
    unfold f21_j18
    rw [cnd_false]
    have two : (p.fKind = 3 ∨ p.fKind = 4) → f21_j14 m (K21 m R) (⟨(k : Int)⟩ : S45) p d false (if (p.fSubs.length : Int) > 2 then (p.fSubs.length : Int) else 2) = _ := fun h34 =>
      counts _ false (by omega) (by unfold SubsOk; split <;> omega)
    by_cases k3 : p.fKind = 3
    · rw [kb 3 k3, cnd_true]
      exact two (.inl k3)
    rw [nk 3 k3, cnd_false]
    by_cases k4 : p.fKind = 4
    · rw [kb 4 k4]
      exact two (.inr k4)
    rw [nk 4 k4]
    unfold f21_j17
    rw [cnd_false]
    by_cases k5 : p.fKind = 5
    · rw [kb 5 k5, cnd_true]
      exact counts 1 false (by omega) (by unfold SubsOk; omega)
    rw [nk 5 k5, cnd_false]
    by_cases k6 : p.fKind = 6
    · rw [kb 6 k6, cnd_true]
      exact counts 2 false (by omega) (by unfold SubsOk; omega)
    rw [nk 6 k6, cnd_false]
    by_cases k7 : p.fKind = 7
    · rw [kb 7 k7]
      exact counts 2 false (by omega) (by unfold SubsOk; omega)
    rw [nk 7 k7]
    have : nodeE p = 4 := by unfold nodeE; rw [if_pos (by omega)]
    rw [this, if_pos (by decide)]
    unfold f21_j16
    exact flt 4
theorem f9_val (m : Nat) (hm : 1000 ≤ m) (p : S24) : f9 m p = some (valS 40 0 p).1 := by
  have h1 := chkX m hm 40 m 1 0 p (by omega) (by omega) (by omega) (by omega)
  have h1 : f21 m (⟨0⟩ : S45) p 1 = some (out (valS 40 0 p)) := h1
  unfold f9
  rw [h1]
  rfl
noncomputable def mk52 (d : Int) (q : P24) : S52 := ⟨q.vw, d⟩
theorem push12 (m : Nat) (v : S52) (hv : 0 ≤ v.fDepth ∧ v.fDepth ≤ 40) (n : Nat) (hn : n ≤ v.fP.fSubs.length) (hn2 : n ≤ 201) : ∀ (M j : Nat) (ys : List S52), j ≤ n → j < M → ys.length + j ≤ 1000000 →
    ∃ z, iter (fun (y : (List S52) × Int) => f12_B1 m v y.1 y.2) M (ys, (j : Int) - 1) = some (.inr z) ∧ z.1 = ys ++ ((v.fP.fSubs.take j).map (mk52 (v.fDepth + 1))).reverse
  | 0, j, ys, _, h, _ => by omega
  | M + 1, 0, ys, h1, h2, h3 => by
    unfold iter
    dsimp only
    have hB : f12_B1 m v ys (((0 : Nat) : Int) - 1) = some (.brk (ys, ((0 : Nat) : Int) - 1)) := by
      unfold f12_B1
      rw [decide_eq_false (by omega), cnd_false]
    rw [hB]
    exact ⟨_, rfl, by simp⟩
  | M + 1, j + 1, ys, h1, h2, h3 => by
    have hlt : j < v.fP.fSubs.length := by omega
    have hx := List.getElem?_eq_getElem hlt
    have e1 : idx v.fP.fSubs (j : Int) = some v.fP.fSubs[j] := by simp [idx, hx]
    have ej : ((j + 1 : Nat) : Int) - 1 = (j : Int) := by omega
    have hwd : w64 (v.fDepth + 1) = v.fDepth + 1 := w64_id ⟨by omega, by omega⟩
    have hwj : w64 ((j : Int) - 1) = (j : Int) - 1 := w64_id ⟨by omega, by omega⟩
    unfold iter
    dsimp only
    rw [ej]
    have hB : f12_B1 m v ys (j : Int) = some (.nxt (ys ++ [mk52 (v.fDepth + 1) v.fP.fSubs[j]], (j : Int) - 1)) := by
      unfold f12_B1
      rw [decide_eq_true (by omega : (j : Int) ≥ 0), cnd_true, e1, bnd_some', hwd, app_some 80 ys _ (by simp; omega) (by simp; omega), bnd_some', hwj]
      rfl
    rw [hB]
    obtain ⟨z, g1, g2⟩ := push12 m v hv n hn hn2 M j (ys ++ [mk52 (v.fDepth + 1) v.fP.fSubs[j]]) (by omega) (by omega) (by rw [List.length_append]; simp; omega)
    refine ⟨z, g1, ?_⟩
    have ht : v.fP.fSubs.take (j + 1) = v.fP.fSubs.take j ++ [v.fP.fSubs[j]] := by rw [List.take_add_one, hx]; rfl
    rw [g2, ht, List.map_append, List.reverse_append, List.append_assoc]
    rfl
theorem step12 (m : Nat) (hm : 1000 ≤ m) (k : Nat) (hk : k ≤ 200) (d : Int) (hd : 1 ≤ d ∧ d ≤ 41) (p : S24) (rest : List S52) (hr : rest.length ≤ 100000) :
    f12_B4 m (rest ++ [⟨p, d⟩]) (k : Int) = if 200 ≤ k ∨ 40 < d then some (.ret ⟨2, (k : Int)⟩) else if nodeE p ≠ 0 then some (.ret ⟨nodeE p, (k : Int)⟩) else
      some (.nxt (rest ++ ((p.fSubs.take 201).map (mk52 (d + 1))).reverse, ((k + 1 : Nat) : Int))) := by
  have hl : (rest ++ [(⟨p, d⟩ : S52)]).length = rest.length + 1 := by simp
  have hw1 : w64 (((rest ++ [(⟨p, d⟩ : S52)]).length : Int) - 1) = (rest.length : Int) := by rw [hl, w64_id ⟨by omega, by omega⟩]; omega
  have hwk : w64 ((k : Int) + 1) = ((k + 1 : Nat) : Int) := by rw [w64_id ⟨by omega, by omega⟩]; omega
  have e1 : idx (rest ++ [(⟨p, d⟩ : S52)]) (rest.length : Int) = some ⟨p, d⟩ := by simp [idx]
  have e2 : sub (rest ++ [(⟨p, d⟩ : S52)]) 0 (rest.length : Int) = some rest := by
    unfold sub
    rw [if_pos ⟨by omega, by omega, by rw [hl]; omega⟩]
    simp
  unfold f12_B4
  rw [decide_eq_true (by rw [hl]; omega : (((rest ++ [(⟨p, d⟩ : S52)]).length : Int) > 0)), cnd_true, hw1, e1, bnd_some', e2, bnd_some']
  unfold f12_r3
  by_cases h1 : 200 ≤ k ∨ 40 < d
  · have : ((decide ((k : Int) ≥ 200)) || (decide ((⟨p, d⟩ : S52).fDepth > 40))) = true := by
      show ((decide ((k : Int) ≥ 200)) || (decide (d > 40))) = true
      simp only [Bool.or_eq_true, decide_eq_true_eq]; omega
    rw [this, cnd_true, if_pos h1]
    rfl
  · have : ((decide ((k : Int) ≥ 200)) || (decide ((⟨p, d⟩ : S52).fDepth > 40))) = false := by
      show ((decide ((k : Int) ≥ 200)) || (decide (d > 40))) = false
      simp only [Bool.or_eq_false_iff, decide_eq_false_iff_not]; omega
    rw [this, cnd_false, if_neg h1]
    dsimp only
    rw [f26_eq m hm, bnd_some']
    by_cases h2 : nodeE p = 0
    · have : (nodeE p != 0) = false := by simpa using h2
      rw [this, cnd_false, if_neg (by simpa using h2)]
      have fin : ∀ n : Nat, n ≤ p.fSubs.length → n ≤ 201 → f12_j2 m (k : Int) (⟨p, d⟩ : S52) rest (n : Int) = some (.nxt (rest ++ ((p.fSubs.take n).map (mk52 (d + 1))).reverse, ((k + 1 : Nat) : Int))) := by
        intro n hn hn2
        unfold f12_j2
        have hwn : w64 ((n : Int) - 1) = (n : Int) - 1 := w64_id ⟨by omega, by omega⟩
        obtain ⟨z, g1, g2⟩ := push12 m (⟨p, d⟩ : S52) ⟨by show 0 ≤ d; omega, by show d ≤ 40; omega⟩ n hn hn2 m n rest (Nat.le_refl _) (by omega) (by omega)
        rw [hwn, g1, brk_inr, hwk, g2]
      by_cases h3 : 201 < p.fSubs.length
      · rw [decide_eq_true (by omega : (p.fSubs.length : Int) > 201), cnd_true]
        exact fin 201 (by omega) (Nat.le_refl _)
      · rw [decide_eq_false (by omega : ¬ (p.fSubs.length : Int) > 201), cnd_false, fin p.fSubs.length (Nat.le_refl _) (by omega), List.take_length, List.take_of_length_le (by omega)]
    · have : (nodeE p != 0) = true := by simpa using h2
      rw [this, cnd_true, if_pos h2]
      rfl
def Took (m : Nat) (o : S27 × Nat) (M k : Nat) (ys rest : List S52) : Prop :=
  if o.1.fCode ≠ 0 then iter (fun (y : (List S52) × Int) => f12_B4 m y.1 y.2) M (ys, (k : Int)) = some (.inl o.1)
  else ∃ M', M' + o.2 = M + k ∧ iter (fun (y : (List S52) × Int) => f12_B4 m y.1 y.2) M (ys, (k : Int)) = iter (fun (y : (List S52) × Int) => f12_B4 m y.1 y.2) M' (rest, (o.2 : Int))
theorem node12 (m : Nat) (hm : 1000 ≤ m) : ∀ (r : Nat) (M k : Nat) (d : Int) (p : S24) (rest : List S52), d + r = 41 → 1 ≤ d → k ≤ 200 → 202 ≤ M + k → rest.length ≤ 202 * (k + 1) →
    Took m (valS r k p) M k (rest ++ [⟨p, d⟩]) rest
  | r, 0, k, d, p, rest, _, _, hk, hM, _ => by omega
  | 0, M + 1, k, d, p, rest, h1, h2, hk, hM, hl => by
    unfold Took valS
    rw [if_pos (by simp)]
    unfold iter
    dsimp only
    rw [step12 m hm k hk d ⟨h2, by omega⟩ p rest (by omega), if_pos (.inr (by omega))]
  | r + 1, M + 1, k, d, p, rest, h1, h2, hk, hM, hl => by
    have hst := step12 m hm k hk d ⟨h2, by omega⟩ p rest (by omega)
    by_cases hk2 : 200 ≤ k
    · rw [if_pos (.inl hk2)] at hst
      unfold Took valS
      rw [if_pos hk2, if_pos (by simp)]
      unfold iter
      dsimp only
      rw [hst]
    rw [if_neg (by omega)] at hst
    by_cases hn : nodeE p = 0
    · rw [if_neg (by simpa using hn)] at hst
      have hv : valS (r + 1) k p = subsS (fun k q => valS r k q.vw) (p.fSubs.take 201) (k + 1) := by
        rw [subsS_take (fun k q h => valS_fine r k q.vw h) p.fSubs (k + 1) (by omega)]
        show (if 200 ≤ k then _ else if nodeE p ≠ 0 then _ else _) = _
        rw [if_neg hk2, if_neg (by simpa using hn)]
      have hlen : (p.fSubs.take 201).length ≤ 201 := by rw [List.length_take]; omega
      have subs : ∀ (l : List P24) (M k : Nat), k ≤ 200 → 202 ≤ M + k → rest.length + l.length ≤ 202 * (k + 1) → Took m (subsS (fun k q => valS r k q.vw) l k) M k (rest ++ (l.map (mk52 (d + 1))).reverse) rest := by
        intro l
        induction l with
        | nil =>
          intro M k hk hM _
          unfold Took subsS
          rw [if_neg (by simp)]
          exact ⟨M, rfl, by simp⟩
        | cons q l ih =>
          intro M k hk hM hlen
          rw [List.length_cons] at hlen
          have h3 := node12 m hm r M k (d + 1) q.vw (rest ++ (l.map (mk52 (d + 1))).reverse) (by omega) (by omega) hk hM (by simp; omega)
          have e : rest ++ ((q :: l).map (mk52 (d + 1))).reverse = rest ++ (l.map (mk52 (d + 1))).reverse ++ [⟨q.vw, d + 1⟩] := by
            rw [List.map_cons, List.reverse_cons, ← List.append_assoc]; rfl
          rw [e]
          unfold subsS
          have hf := valS_fine r k q.vw hk
          by_cases h0 : (valS r k q.vw).1.fCode ≠ 0
          · rw [if_pos h0]
            unfold Took at h3 ⊢
            rw [if_pos h0] at h3 ⊢
            exact h3
          · rw [if_neg h0]
            unfold Took at h3
            rw [if_neg h0] at h3
            obtain ⟨M', g1, g2⟩ := h3
            rcases hf with ⟨_, f2, f3⟩ | hf
            · have h4 := ih M' (valS r k q.vw).2 f3 (by omega) (by omega)
              unfold Took at h4 ⊢
              rw [g2]
              by_cases h5 : (subsS (fun k q => valS r k q.vw) l (valS r k q.vw).2).1.fCode ≠ 0
              · rw [if_pos h5] at h4 ⊢
                exact h4
              · rw [if_neg h5] at h4 ⊢
                obtain ⟨M2, q1, q2⟩ := h4
                exact ⟨M2, by omega, q2⟩
            · exact (h0 hf).elim
      have h3 := subs (p.fSubs.take 201) M (k + 1) (by omega) (by omega) (by omega)
      rw [hv]
      unfold Took at h3 ⊢
      have hit : iter (fun (y : (List S52) × Int) => f12_B4 m y.1 y.2) (M + 1) (rest ++ [⟨p, d⟩], (k : Int)) = iter (fun (y : (List S52) × Int) => f12_B4 m y.1 y.2) M (rest ++ ((p.fSubs.take 201).map (mk52 (d + 1))).reverse, ((k + 1 : Nat) : Int)) := by
        conv => lhs; unfold iter
        dsimp only
        rw [hst]
      rw [hit]
      by_cases h5 : (subsS (fun k q => valS r k q.vw) (p.fSubs.take 201) (k + 1)).1.fCode ≠ 0
      · rw [if_pos h5] at h3 ⊢
        exact h3
      · rw [if_neg h5] at h3 ⊢
        obtain ⟨M2, q1, q2⟩ := h3
        exact ⟨M2, by omega, q2⟩
    · rw [if_pos hn] at hst
      unfold Took valS
      rw [if_neg hk2, if_pos hn, if_pos hn]
      unfold iter
      dsimp only
      rw [hst]
theorem f12_val (m : Nat) (hm : 1000 ≤ m) (p : S24) : f12 m p = some (valS 40 0 p).1 := by
  have h := node12 m hm 40 m 0 1 p [] (by omega) (by omega) (by omega) (by omega) (by simp)
  have hf := valS_fine 40 0 p (by omega)
  unfold f12
  unfold Took at h
  have e : iter (fun (y : (List S52) × Int) => f12_B4 m y.1 y.2) m ([(⟨p, 1⟩ : S52)], 0) = iter (fun (y : (List S52) × Int) => f12_B4 m y.1 y.2) m ([] ++ [(⟨p, 1⟩ : S52)], ((0 : Nat) : Int)) := rfl
  rw [e]
  by_cases h0 : (valS 40 0 p).1.fCode ≠ 0
  · rw [if_pos h0] at h
    rw [h]
    rfl
  · rw [if_neg h0] at h
    obtain ⟨M', g1, g2⟩ := h
    rcases hf with ⟨f1, f2, f3⟩ | hf
    · rw [g2]
      have hB : f12_B4 m [] ((valS 40 0 p).2 : Int) = some (.brk ([], ((valS 40 0 p).2 : Int))) := by
        unfold f12_B4
        rw [decide_eq_false (by simp), cnd_false]
      obtain ⟨M1, rfl⟩ : ∃ q, M' = q + 1 := ⟨M' - 1, by omega⟩
      unfold iter
      dsimp only
      rw [hB, brk_inr, f1]
    · exact (h0 hf).elim
theorem faults_same (m : Nat) (hm : 1000 ≤ m) (p : S24) : f9 m p = f12 m p := by rw [f9_val m hm, f12_val m hm]
theorem F2.all {R : P24 → Nat → Prop} {a : List P24} {b : List Nat} (h : F2 R a b) (hn : b.sum ≤ 200) : ∀ q ∈ a, ∃ k, k ≤ 200 ∧ R q k := fun q hq => by
  obtain ⟨k, g2, g1⟩ := h.mem q hq
  exact ⟨k, by omega, g2⟩
theorem contains_any (l : List Int) (x : Int) : (∃ k, 0 ≤ k ∧ k < l.length ∧ (l.getD k 0 == x) = true) ↔ l.contains x = true := by
  rw [List.contains_iff_mem]
  constructor
  · rintro ⟨k, _, hk, h⟩
    rw [beq_iff_eq, List.getD_eq_getElem?_getD, List.getElem?_eq_getElem hk] at h
    have h : l[k] = x := h
    rw [← h]
    exact List.getElem_mem hk
  · intro h
    obtain ⟨k, hk, h⟩ := List.getElem_of_mem h
    refine ⟨k, Nat.zero_le _, hk, ?_⟩
    rw [beq_iff_eq, List.getD_eq_getElem?_getD, List.getElem?_eq_getElem hk]
    exact h
theorem fits (m : Nat) (hm : 1000 ≤ m) : ∀ (r : Nat) (p : S24) (n : Nat), Gd r p n → n ≤ 200 → ∀ (R : Nat) (u : List Int), 300 * r ≤ R → u.length ≤ 30 → (K19 m R).r19 p u = some (lang r p u)
  | 0, _, _, h, _, _, _, _, _ => h.elim
  | r + 1, p, n, _, _, 0, _, hR, _ => by omega
  | r + 1, p, n, ⟨⟨⟨hl1, hl2, hl3⟩, hk2, hk⟩, ns, hF, e⟩, hn, R + 1, u, hR, hu => by
    have hsl : p.fSubs.length ≤ ns.sum := F2.sum (fun q n h => Gd.pos h) hF
    have hs : ∀ q ∈ p.fSubs, HK m (300 * r) (fun q => lang r q.vw) q := fun q hq R' u' hR' hu' => by
      obtain ⟨k, g1, g2⟩ := F2.all hF (by omega) q hq
      exact fits m hm r q.vw k g2 g1 R' u' hR' hu'
    show b19 m (K19 m R) p u = some (lang (r + 1) p u)
    unfold lang
    unfold b19
    by_cases k1 : p.fKind = 1
    · rw [if_pos k1, k1, show ((1 : Int) == 1) = true from rfl, cnd_true]
      congr 1
      rw [Bool.eq_iff_iff, oneL_iff, beq_iff_eq]
      constructor
      · intro h; exact List.eq_nil_of_length_eq_zero (by omega)
      · rintro rfl; rfl
    have e1 : (p.fKind == 1) = false := by rw [beq_eq_false_iff_ne]; exact k1
    rw [if_neg k1, e1, cnd_false]
    by_cases k2 : p.fKind = 2
    · rw [if_pos k2, show (p.fKind == 2) = true by rw [k2]; rfl, cnd_true]
      by_cases hu1 : u.length = 1
      · have e2 : ((u.length : Int) != 1) = false := by rw [hu1]; rfl
        rw [e2, cnd_false]
        match u, hu1 with
        | [x], _ =>
          have hB : ∀ i : Nat, 0 ≤ i → i < p.fLabels.length → f19_B1 m (K19 m R) p [x] (i : Int) = if (p.fLabels.getD i 0 == x) = true then some (.ret true) else some (.nxt ((i + 1 : Nat) : Int)) := by
            intro i _ hi
            have hwi : w64 ((i : Int) + 1) = ((i + 1 : Nat) : Int) := by rw [w64_id ⟨by omega, by omega⟩]; omega
            have g1 : idx p.fLabels (i : Int) = some (p.fLabels.getD i 0) := by
              simp [idx, List.getD_eq_getElem?_getD, List.getElem?_eq_getElem hi]
            have g2 : idx [x] (0 : Int) = some x := rfl
            unfold f19_B1
            rw [decide_eq_true (by omega : (i : Int) < (p.fLabels.length : Int)), cnd_true, g1, bnd_some', g2, bnd_some']
            cases (p.fLabels.getD i 0 == x) with
            | false => rw [cnd_false, hwi]; rfl
            | true => rw [cnd_true]; rfl
          have hE : f19_B1 m (K19 m R) p [x] (p.fLabels.length : Int) = some (.brk (p.fLabels.length : Int)) := by
            unfold f19_B1
            rw [decide_eq_false (by omega), cnd_false]
          show _ = some (p.fLabels.contains x)
          rcases any_loop _ _ _ 0 hB hE m 0 (Nat.le_refl _) (Nat.zero_le _) (by omega) with ⟨g1, g2⟩ | ⟨g1, g2⟩
          · have g1 : iter (fun (y : Int) => f19_B1 m (K19 m R) p [x] y) m 0 = some (.inl true) := g1
            rw [g1, (contains_any _ _).1 g2]
            rfl
          · have g1 : iter (fun (y : Int) => f19_B1 m (K19 m R) p [x] y) m 0 = some (.inr (p.fLabels.length : Int)) := g1
            have : p.fLabels.contains x = false := by
              rw [← Bool.not_eq_true]
              intro h
              obtain ⟨k, c1, c2, c3⟩ := (contains_any _ _).2 h
              rw [g2 k c1 c2] at c3
              cases c3
            rw [g1, this]
            rfl
      · have e2 : ((u.length : Int) != 1) = true := by
          rw [bne_iff_ne]; omega
        rw [e2, cnd_true]
        match u, hu1 with
        | [], _ => rfl
        | [x], h => exact absurd rfl h
        | _ :: _ :: _, _ => rfl
    have e2 : (p.fKind == 2) = false := by rw [beq_eq_false_iff_ne]; exact k2
    rw [if_neg k2, e2, cnd_false]
    by_cases k3 : p.fKind = 3
    · have hne : p.fSubs ≠ [] := fun h => by rw [h] at hk; simp only [List.length_nil] at hk; omega
      rw [if_pos k3, show (p.fKind == 3) = true by rw [k3]; rfl, cnd_true, foldL_row, row_eq m hm (300 * r) (fun q => lang r q.vw) p.fSubs hne hs R u (by omega) hu, bnd_some']
    have e3 : (p.fKind == 3) = false := by rw [beq_eq_false_iff_ne]; exact k3
    rw [if_neg k3, e3, cnd_false]
    by_cases k4 : p.fKind = 4
    · have hne : p.fSubs ≠ [] := fun h => by rw [h] at hk; simp only [List.length_nil] at hk; omega
      rw [if_neg (by omega), show (p.fKind == 4) = true by rw [k4]; rfl, cnd_true]
      have hB : ∀ i : Nat, 0 ≤ i → i < p.fSubs.length → f19_B2 m (K19 m R) p u (i : Int) = if (match p.fSubs[i]? with
          | some q => lang r q.vw u
          | none => false) = true then some (.ret true) else some (.nxt ((i + 1 : Nat) : Int)) := by
        intro i _ hi
        have hwi : w64 ((i : Int) + 1) = ((i + 1 : Nat) : Int) := by rw [w64_id ⟨by omega, by omega⟩]; omega
        obtain ⟨q, hq⟩ : ∃ q, p.fSubs[i]? = some q := ⟨_, List.getElem?_eq_getElem hi⟩
        have g1 : idx p.fSubs (i : Int) = some q := by simp [idx, hq]
        have g2 := hs q (List.mem_of_getElem? hq) R u (by omega) hu
        unfold f19_B2
        rw [decide_eq_true (by omega : (i : Int) < (p.fSubs.length : Int)), cnd_true, g1, bnd_some', g2, bnd_some', hq]
        show cnd (lang r q.vw u) _ _ = if lang r q.vw u = true then _ else _
        cases lang r q.vw u with
        | false => rw [cnd_false, hwi]; rfl
        | true => rw [cnd_true]; rfl
      have hE : f19_B2 m (K19 m R) p u (p.fSubs.length : Int) = some (.brk (p.fSubs.length : Int)) := by
        unfold f19_B2
        rw [decide_eq_false (by omega), cnd_false]
      have hany : eachL p.fKind (p.fSubs.map fun q => lang r q.vw) u = p.fSubs.any fun q => lang r q.vw u := by
        unfold eachL
        rw [if_pos k4]
        match p.fSubs, hne with
        | q :: l, _ => simp [List.any_map, Function.comp_def]
      rw [hany]
      rcases any_loop _ _ _ 0 hB hE m 0 (Nat.le_refl _) (Nat.zero_le _) (by omega) with ⟨g1, k, _, g2, g3⟩ | ⟨g1, g2⟩
      · have g1 : iter (fun (y : Int) => f19_B2 m (K19 m R) p u y) m 0 = some (.inl true) := g1
        have hq := List.getElem?_eq_getElem g2
        rw [hq] at g3
        have : (p.fSubs.any fun q => lang r q.vw u) = true := List.any_eq_true.2 ⟨_, List.mem_of_getElem? hq, g3⟩
        rw [g1, this]
        rfl
      · have g1 : iter (fun (y : Int) => f19_B2 m (K19 m R) p u y) m 0 = some (.inr (p.fSubs.length : Int)) := g1
        have : (p.fSubs.any fun q => lang r q.vw u) = false := List.any_eq_false.2 fun q hq => by
          obtain ⟨k, hk, rfl⟩ := List.getElem_of_mem hq
          have := g2 k (Nat.zero_le _) hk
          rw [List.getElem?_eq_getElem hk] at this
          rw [show lang r (p.fSubs[k]).vw u = false from this]
          simp
        rw [g1, this]
        rfl
    have e4 : (p.fKind == 4) = false := by rw [beq_eq_false_iff_ne]; exact k4
    rw [e4, cnd_false]
    by_cases k5 : p.fKind = 5
    · rw [if_pos k5, show (p.fKind == 6) = false by rw [k5]; rfl, cnd_false, show (p.fKind == 7) = false by rw [k5]; rfl, cnd_false]
      obtain ⟨c1, c2, c3, c4, c5, c6⟩ : p.fSubs.length = 1 ∧ 0 ≤ p.fLeast ∧ p.fLeast ≤ 9 ∧ -1 ≤ p.fMost ∧ p.fMost ≤ 9 ∧ (0 ≤ p.fMost → p.fLeast ≤ p.fMost) := by omega
      revert hs
      match p.fSubs, c1 with
      | [q], _ =>
        intro hs
        obtain ⟨b, h36, hb⟩ := times_ex m hm (300 * r) (fun q => lang r q.vw) q (hs q List.mem_cons_self) R p.fLeast p.fMost u hu (by omega) (by omega) c5 c4 c3 c2
        rw [show idx [q] (0 : Int) = some q from rfl, bnd_some', h36, bnd_some']
        congr 1
        show _ = repL (lang r q.vw) p.fLeast p.fMost u
        rw [Bool.eq_iff_iff, hb, repL_iff c2 (by omega)]
        rfl
    rw [if_neg k5]
    have two : (p.fKind = 6 ∨ p.fKind = 7) ∧ p.fSubs.length = 2 := by omega
    obtain ⟨h67, hl2'⟩ := two
    revert hs
    match p.fSubs, hl2' with
    | [qa, qb], _ =>
      intro hs
      have ga : (K19 m R).r19 qa.vw u = some (lang r qa.vw u) := hs qa List.mem_cons_self R u (by omega) hu
      have gb : (K19 m R).r19 qb.vw u = some (lang r qb.vw u) := hs qb (List.mem_cons_of_mem _ List.mem_cons_self) R u (by omega) hu
      have ia : idx [qa, qb] (0 : Int) = some qa := rfl
      have ib : idx [qa, qb] (1 : Int) = some qb := rfl
      unfold eachL
      rcases h67 with k6 | k7
      · rw [show (p.fKind == 6) = true by rw [k6]; rfl, cnd_true, ia, bnd_some', ga, bnd_some', if_neg k4, if_pos k6]
        unfold f19_r3
        show _ = some (lang r qa.vw u && ([lang r qb.vw].any fun F => F u))
        cases lang r qa.vw u with
        | false => rfl
        | true =>
          rw [cnd_true, ib, bnd_some', gb, bnd_some', bnd_some']
          simp
      · rw [show (p.fKind == 6) = false by rw [k7]; rfl, cnd_false, show (p.fKind == 7) = true by rw [k7]; rfl, cnd_true, ia, bnd_some', ga, bnd_some', if_neg k4, if_neg (by omega), if_pos k7]
        unfold f19_r4
        show _ = some (lang r qa.vw u && !([lang r qb.vw].any fun F => F u))
        cases lang r qa.vw u with
        | false => rfl
        | true =>
          rw [cnd_true, ib, bnd_some', gb, bnd_some', bnd_some']
          simp
theorem size_loop (m : Nat) (K : Rec18) (p : S24) (hl : p.fSubs.length ≤ 1000) (hK : ∀ q ∈ p.fSubs, ∃ v, K.r18 q.vw = some v) : ∀ (M i : Nat) (a : Int), i ≤ p.fSubs.length → p.fSubs.length < M + i → ∃ z, iter (fun (y : Int × Int) => f18_B1 m K p y.1 y.2) M (a, (i : Int)) = some (.inr z)
  | 0, i, a, h1, h2 => by omega
  | M + 1, i, a, h1, h2 => by
    unfold iter
    dsimp only
    rcases Nat.lt_or_ge i p.fSubs.length with hlt | hge
    · have hwi : w64 ((i : Int) + 1) = ((i + 1 : Nat) : Int) := by rw [w64_id ⟨by omega, by omega⟩]; omega
      obtain ⟨q, hq⟩ : ∃ q, p.fSubs[i]? = some q := ⟨_, List.getElem?_eq_getElem hlt⟩
      have g1 : idx p.fSubs (i : Int) = some q := by simp [idx, hq]
      obtain ⟨v, hv⟩ := hK q (List.mem_of_getElem? hq)
      have hB : f18_B1 m K p a (i : Int) = some (.nxt (w64 (a + v), ((i + 1 : Nat) : Int))) := by
        unfold f18_B1
        rw [decide_eq_true (by omega : (i : Int) < (p.fSubs.length : Int)), cnd_true, g1, bnd_some', hv, bnd_some', hwi]
      rw [hB]
      exact size_loop m K p hl hK M (i + 1) (w64 (a + v)) hlt (by omega)
    · have : i = p.fSubs.length := by omega
      subst this
      have hB : f18_B1 m K p a (p.fSubs.length : Int) = some (.brk (a, (p.fSubs.length : Int))) := by
        unfold f18_B1
        rw [decide_eq_false (by omega), cnd_false]
      rw [hB]
      exact ⟨_, rfl⟩
theorem size_ex (m : Nat) (hm : 1000 ≤ m) : ∀ (r : Nat) (p : S24) (n : Nat), Gd r p n → n ≤ 200 → ∀ R, r ≤ R → ∃ v, (K18 m R).r18 p = some v
  | 0, _, _, h, _, _, _ => h.elim
  | r + 1, p, n, _, _, 0, hR => by omega
  | r + 1, p, n, ⟨_, ns, hF, e⟩, hn, R + 1, hR => by
    have hsl : p.fSubs.length ≤ ns.sum := F2.sum (fun q n h => Gd.pos h) hF
    obtain ⟨z, hz⟩ := size_loop m (K18 m R) p (by omega) (fun q hq => by
      obtain ⟨k, g1, g2⟩ := F2.all hF (by omega) q hq
      exact size_ex m hm r q.vw k g2 g1 R (by omega)) m 0 1 (Nat.zero_le _) (by omega)
    have hz : iter (fun (y : Int × Int) => f18_B1 m (K18 m R) p y.1 y.2) m (1, 0) = some (.inr z) := hz
    show ∃ v, b18 m (K18 m R) p = some v
    unfold b18
    rw [hz]
    show ∃ v, cnd (p.fKind == 5) (cnd (decide (p.fMost < 0)) (some (w64 (z.1 * 5))) (cnd (decide (p.fMost > 1)) (some (w64 (z.1 * p.fMost))) (some z.1))) (some z.1) = some v
    cases (p.fKind == 5) with
    | false => exact ⟨_, rfl⟩
    | true =>
      rw [cnd_true]
      cases decide (p.fMost < 0) with
      | true => exact ⟨_, rfl⟩
      | false =>
        rw [cnd_false]
        cases decide (p.fMost > 1) <;> exact ⟨_, rfl⟩
theorem f17_loop (m : Nat) (l : List Int) (hl : l.length ≤ 1000) : ∀ (M i : Nat), i ≤ l.length → l.length < M + i →
    iter (fun (y : Int) => f17_B2 m l (-2) y) M (i : Int) = some (if ∀ x ∈ l.drop i, 1 ≤ x ∧ x ≤ 1114111 then .inr (l.length : Int) else .inl (⟨3, -2⟩ : S27))
  | 0, i, h1, h2 => by omega
  | M + 1, i, h1, h2 => by
    unfold iter
    rcases Nat.lt_or_ge i l.length with hlt | hge
    · have hx := List.getElem?_eq_getElem hlt
      have e1 : idx l (i : Int) = some l[i] := by simp [idx, hx]
      have hwi : w64 ((i : Int) + 1) = ((i + 1 : Nat) : Int) := by rw [w64_id ⟨by omega, by omega⟩]; omega
      have hf : f34 m 3 (-2) = some (⟨3, -2⟩ : S27) := rfl
      rw [List.drop_eq_getElem_cons hlt]
      by_cases hc : 1 ≤ l[i] ∧ l[i] ≤ 1114111
      · have hB : f17_B2 m l (-2) (i : Int) = some (.nxt ((i + 1 : Nat) : Int)) := by
          unfold f17_B2
          rw [decide_eq_true (by omega : (i : Int) < (l.length : Int)), cnd_true, e1, bnd_some']
          unfold f17_r1
          rw [decide_eq_false (by omega : ¬ l[i] < 1), decide_eq_false (by omega : ¬ l[i] > 1114111)]
          rw [Bool.or_false, cnd_false, hwi]
        rw [hB]
        show iter (fun (y : Int) => f17_B2 m l (-2) y) M ((i + 1 : Nat) : Int) = _
        rw [f17_loop m l hl M (i + 1) hlt (by omega)]
        congr 1
        by_cases h3 : ∀ x ∈ l.drop (i + 1), 1 ≤ x ∧ x ≤ 1114111
        · rw [if_pos h3, if_pos (fun x hx => by
            rcases List.mem_cons.1 hx with rfl | hx
            · exact hc
            · exact h3 x hx)]
        · rw [if_neg h3, if_neg (fun h => h3 fun x hx => h x (List.mem_cons_of_mem _ hx))]
      · have hB : f17_B2 m l (-2) (i : Int) = some (.ret (⟨3, -2⟩ : S27)) := by
          unfold f17_B2
          rw [decide_eq_true (by omega : (i : Int) < (l.length : Int)), cnd_true, e1, bnd_some']
          unfold f17_r1
          have hb : (decide (l[i] < 1) || decide (l[i] > 1114111)) = true := by
            rw [Bool.or_eq_true, decide_eq_true_eq, decide_eq_true_eq]; omega
          rw [hb, cnd_true, hf, bnd_some']
        rw [hB, if_neg (fun h => hc (h _ List.mem_cons_self))]
    · have : i = l.length := by omega
      subst this
      have hB : f17_B2 m l (-2) (l.length : Int) = some (.brk (l.length : Int)) := by
        unfold f17_B2
        rw [decide_eq_false (by omega), cnd_false]
      rw [hB, List.drop_length, if_pos (fun x hx => by cases hx)]
theorem f17_eq (m : Nat) (hm : 1000 ≤ m) (w : List Int) : f17 m w (-2) = some (wordF w) := by
  unfold f17 wordF
  by_cases hl : w.length ≤ 30
  case neg =>
    rw [decide_eq_true (by omega), cnd_true, if_neg hl]
    rfl
  have hlp := f17_loop m w (by omega) m 0 (Nat.zero_le _) (by omega)
  rw [List.drop_zero] at hlp
  have hlp : iter (fun (y : Int) => f17_B2 m w (-2) y) m 0 = _ := hlp
  rw [decide_eq_false (by omega), cnd_false, hlp, if_pos hl]
  by_cases hx : ∀ x ∈ w, 1 ≤ x ∧ x ≤ 1114111
  · rw [if_pos hx, if_pos hx]; rfl
  · rw [if_neg hx, if_neg hx]; rfl
theorem plain5 (m : Nat) (hm : 20000 ≤ m) (p : S24) (w : List Int) : f5 m p w = some true := by
  obtain ⟨f, h1, h2⟩ := f9_eq m (by omega) p
  have h16 := f16_exact m (by omega) p w f h1
  have h12 : f12 m p = some f := by rw [← faults_same m (by omega) p]; exact h1
  have e : f5 m p w = cnd ((f.fCode == 0) && ((f.fIndex == 0) && true)) (bnd (f17 m w (-2)) fun v36 => f5_j4 m p w (if f = (⟨0, 0⟩ : S27) then (if wordF w = (⟨0, 0⟩ : S27) then (lang 70 p w, (⟨0, 0⟩ : S27)) else (false, wordF w)) else (false, f)) v36.fCode v36.fIndex)
      (f5_j4 m p w (if f = (⟨0, 0⟩ : S27) then (if wordF w = (⟨0, 0⟩ : S27) then (lang 70 p w, (⟨0, 0⟩ : S27)) else (false, wordF w)) else (false, f)) f.fCode f.fIndex) := by
    unfold f5
    rw [show f8 m = some true from rfl, bnd_some', Bool.not_true, cnd_false, h16, bnd_some', h12, bnd_some']
  have bad : ∀ g : S27, g ≠ (⟨0, 0⟩ : S27) → f5_j4 m p w (false, g) g.fCode g.fIndex = some true := by
    intro g hg
    unfold f5_j4
    rw [zero27, decide_eq_false hg, Bool.not_false, cnd_true]
    unfold f5_r1
    simp
  rw [e, zero27]
  by_cases hf : f = (⟨0, 0⟩ : S27)
  case neg =>
    rw [decide_eq_false hf, cnd_false, if_neg hf]
    exact bad f hf
  rw [decide_eq_true hf, cnd_true, if_pos hf, f17_eq m (by omega) w, bnd_some']
  by_cases hw : wordF w = (⟨0, 0⟩ : S27)
  case neg =>
    rw [if_neg hw]
    exact bad _ hw
  rw [if_pos hw, hw]
  rcases h2 with ⟨_, n, hn, hG⟩ | h2
  case inr => subst hf; exact absurd rfl h2
  have hW := wordF_ok.1 hw
  have hO : OkM 40 p := Gd.okM 40 p n hn hG
  obtain ⟨v, hv⟩ := size_ex m (by omega) 40 p n hG hn m (by omega)
  have hv : f18 m p = some v := hv
  have h19 : f19 m p w = some (lang 40 p w) := fits m (by omega) 40 p n hG hn m w (by omega) hW.1
  have hlg : lang 70 p = lang 40 p := lang_le hO 30
  unfold f5_j4
  rw [zero27, decide_eq_true rfl, Bool.not_true, cnd_false, hv]
  have hc : ∃ b, (cnd (decide ((w.length : Int) > 5)) (some true) (bnd (some v) fun v35 => some (decide (v35 > 25)))) = some b := by
    cases decide ((w.length : Int) > 5) with
    | true => exact ⟨_, rfl⟩
    | false => exact ⟨_, rfl⟩
  obtain ⟨b, hb⟩ := hc
  rw [hb, bnd_some']
  unfold f5_r3
  cases b with
  | true => rfl
  | false =>
    rw [cnd_false, zero27, decide_eq_true rfl, cnd_true, h19, bnd_some', bnd_some']
    unfold f5_r2
    rw [hlg]
    simp
end Go.Abs
