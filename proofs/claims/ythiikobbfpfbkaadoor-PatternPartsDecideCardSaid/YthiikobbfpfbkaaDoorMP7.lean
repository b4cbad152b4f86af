import Derived.Test.YthiikobbfpfbkaaDoorWLaw
import Derived.Test.YthiikobbfpfbkaaDoorAbsH
import Derived.Test.YthiikobbfpfbkaaDoorMC8
namespace Go.Abs
open Go.Sort Go.Proofs
set_option linter.unusedVariables false
set_option maxRecDepth 100000
set_option maxHeartbeats 2000000
theorem P24.ext {a b : P24} (h : ep24 a = ep24 b) : a = b := Subtype.ext h
theorem P24.con_vw (p : P24) : P24.con p.vw = p := P24.ext (ep24_vw p).symm
theorem eI_inj : ∀ {a b : List Int}, a.map eI = b.map eI → a = b
  | [], [], _ => rfl
  | x :: r, y :: s, h => by
    simp only [List.map_cons, List.cons.injEq] at h
    have h1 : x = y := by have := h.1; unfold eI at this; injection this
    rw [h1, eI_inj h.2]
  | [], _ :: _, h => by cases h
  | _ :: _, [], h => by cases h
theorem ep24_inj : ∀ {a b : List P24}, a.map ep24 = b.map ep24 → a = b
  | [], [], _ => rfl
  | x :: r, y :: s, h => by
    simp only [List.map_cons, List.cons.injEq] at h
    rw [P24.ext h.1, ep24_inj h.2]
  | [], _ :: _, h => by cases h
  | _ :: _, [], h => by cases h
theorem e24_inj {a b : S24} (h : e24 a = e24 b) : a = b := by
  obtain ⟨a1, a2, a3, a4, a5⟩ := a
  obtain ⟨b1, b2, b3, b4, b5⟩ := b
  unfold e24 vI vP at h
  simp only [V.agg.injEq, List.cons.injEq, V.int.injEq, true_and, V.sl.injEq, and_true] at h
  obtain ⟨rfl, h2, h3, rfl, rfl⟩ := h
  rw [eI_inj h2, ep24_inj h3]
theorem P24.vw_con (s : S24) : (P24.con s).vw = s := e24_inj (ep24_vw (P24.con s)).symm
def F2 {α β : Type} (R : α → β → Prop) : List α → List β → Prop
  | [], [] => True
  | x :: r, y :: s => R x y ∧ F2 R r s
  | _, _ => False
def okC (x : Int) : Prop := 1 ≤ x ∧ x ≤ 1114111 ∧ (x < 55296 ∨ 57343 < x)
def LabOk (l : List Int) : Prop := l.length ≤ 300 ∧ (∀ x ∈ l, okC x) ∧ l.Pairwise (· < ·)
def OkN (p : S24) : Prop :=
  LabOk p.fLabels ∧ (p.fKind = 2 ↔ p.fLabels ≠ []) ∧
  ((p.fKind = 1 ∨ p.fKind = 2) ∧ p.fSubs.length = 0 ∧ p.fLeast = 0 ∧ p.fMost = 0 ∨
   (p.fKind = 3 ∨ p.fKind = 4) ∧ 2 ≤ p.fSubs.length ∧ p.fLeast = 0 ∧ p.fMost = 0 ∨
   p.fKind = 5 ∧ p.fSubs.length = 1 ∧ 0 ≤ p.fLeast ∧ p.fLeast ≤ 9 ∧ -1 ≤ p.fMost ∧ p.fMost ≤ 9 ∧ (0 ≤ p.fMost → p.fLeast ≤ p.fMost) ∨
   (p.fKind = 6 ∨ p.fKind = 7) ∧ p.fSubs.length = 2 ∧ p.fLeast = 0 ∧ p.fMost = 0)
def Gd : Nat → S24 → Nat → Prop
  | 0, _, _ => False
  | r + 1, p, n => OkN p ∧ ∃ ns, F2 (fun q k => Gd r (P24.vw q) k) p.fSubs ns ∧ n = 1 + ns.sum
theorem f37_eq (m : Nat) (x : Int) : ∃ b, f37 m x = some b ∧ (b = true ↔ okC x) := by
  unfold f37 f37_r2 f37_r1
  refine ⟨_, rfl, ?_⟩
  simp only [Bool.and_eq_true, Bool.or_eq_true, decide_eq_true_eq, okC]
  omega
theorem lab_loop (m : Nat) (K : Rec21) (k : Nat) (hk : k < 1000) (p : S24) (hl : p.fLabels.length ≤ 300) : ∀ (M i : Nat), i ≤ p.fLabels.length → p.fLabels.length < M + i →
    (∀ x ∈ p.fLabels.take i, okC x) → (p.fLabels.take i).Pairwise (· < ·) →
    ∃ o, iter (fun (y : Int) => f21_B2 m K (⟨(k : Int)⟩ : S45) p y) M (i : Int) = some o ∧
      (∀ z, o = .inr z → (∀ x ∈ p.fLabels, okC x) ∧ p.fLabels.Pairwise (· < ·)) ∧ (∀ r, o = .inl r → r.1.fCode ≠ 0 ∧ r.2 = (⟨((k + 1 : Nat) : Int)⟩ : S45))
  | 0, i, h1, h2, _, _ => by omega
  | M + 1, i, h1, h2, h3, h4 => by
    have hwk : w64 ((k : Int) + 1) = ((k + 1 : Nat) : Int) := by rw [w64_id ⟨by omega, by omega⟩]; omega
    have hwi : w64 ((i : Int) + 1) = ((i + 1 : Nat) : Int) := by rw [w64_id ⟨by omega, by omega⟩]; omega
    unfold iter f21_B2
    rcases Nat.lt_or_ge i p.fLabels.length with hlt | hge
    · have hx := List.getElem?_eq_getElem hlt
      have e1 : idx p.fLabels (i : Int) = some p.fLabels[i] := by simp [idx, hx]
      obtain ⟨b, hb1, hb2⟩ := f37_eq m p.fLabels[i]
      rw [decide_eq_true (by omega : (i : Int) < (p.fLabels.length : Int)), cnd_true, e1, bnd_some', hb1, bnd_some']
      cases b with
      | false =>
        refine ⟨_, rfl, ⟨fun z hz => (by cases hz), fun r hr => ?_⟩⟩
        cases hr
        exact ⟨(by simp), by simp only [hwk]⟩
      | true =>
        have hok := hb2.1 rfl
        have take1 : p.fLabels.take (i + 1) = p.fLabels.take i ++ [p.fLabels[i]] := by rw [List.take_add_one, hx]; rfl
        have next : (∀ y ∈ p.fLabels.take i, y < p.fLabels[i]) → ∃ o, iter (fun (y : Int) => f21_B2 m K (⟨(k : Int)⟩ : S45) p y) M (w64 ((i : Int) + 1)) = some o ∧
            (∀ z, o = .inr z → (∀ x ∈ p.fLabels, okC x) ∧ p.fLabels.Pairwise (· < ·)) ∧ (∀ r, o = .inl r → r.1.fCode ≠ 0 ∧ r.2 = (⟨((k + 1 : Nat) : Int)⟩ : S45)) := by
          intro hlast
          rw [hwi]
          refine lab_loop m K k hk p hl M (i + 1) hlt (by omega) (fun x hx' => ?_) ?_
          · rw [take1, List.mem_append] at hx'
            rcases hx' with hx' | hx'
            · exact h3 x hx'
            · rw [List.mem_singleton.1 hx']; exact hok
          · rw [take1, List.pairwise_append]
            exact ⟨h4, List.pairwise_singleton _ _, fun a ha b hb => by rw [List.mem_singleton.1 hb]; exact hlast a ha⟩
        rw [Bool.not_true, cnd_false]
        by_cases h0 : i = 0
        · subst h0
          rw [decide_eq_false (by omega : ¬ (((0 : Nat) : Int) > 0)), cnd_false, bnd_some']
          unfold f21_r1
          rw [cnd_false]
          exact next fun y hy => by simp at hy
        · obtain ⟨j, rfl⟩ : ∃ j, i = j + 1 := ⟨i - 1, by omega⟩
          have e0 : w64 (((j + 1 : Nat) : Int) - 1) = (j : Int) := by rw [w64_id ⟨by omega, by omega⟩]; omega
          have hj : j < p.fLabels.length := by omega
          have e2 : idx p.fLabels (j : Int) = some p.fLabels[j] := by simp [idx, List.getElem?_eq_getElem hj]
          rw [decide_eq_true (by omega : (((j + 1 : Nat) : Int) > 0)), cnd_true, e0, e2, bnd_some', bnd_some']
          unfold f21_r1
          by_cases hc : p.fLabels[j] < p.fLabels[j + 1]
          · rw [decide_eq_false (by omega : ¬ (p.fLabels[j] ≥ p.fLabels[j + 1])), cnd_false]
            refine next fun y hy => ?_
            have takej : p.fLabels.take (j + 1) = p.fLabels.take j ++ [p.fLabels[j]] := by rw [List.take_add_one, List.getElem?_eq_getElem hj]; rfl
            rw [takej, List.mem_append] at hy
            rw [takej, List.pairwise_append] at h4
            rcases hy with hy | hy
            · have := h4.2.2 y hy _ List.mem_cons_self
              omega
            · rw [List.mem_singleton.1 hy]; exact hc
          · rw [decide_eq_true (by omega : p.fLabels[j] ≥ p.fLabels[j + 1]), cnd_true]
            refine ⟨_, rfl, ⟨fun z hz => (by cases hz), fun r hr => ?_⟩⟩
            cases hr
            exact ⟨(by simp), by simp only [hwk]⟩
    · have : i = p.fLabels.length := by omega
      subst this
      rw [decide_eq_false (by omega), cnd_false]
      refine ⟨_, rfl, ⟨fun z hz => ?_, fun r hr => nomatch hr⟩⟩
      rw [List.take_length] at h3 h4
      exact ⟨h3, h4⟩
def Res (k : Nat) (P : Nat → Prop) (o : S27 × S45) : Prop := (o.1 = (⟨0, 0⟩ : S27) ∧ ∃ k' : Nat, o.2 = (⟨(k' : Int)⟩ : S45) ∧ k < k' ∧ k' ≤ 200 ∧ P (k' - k)) ∨ o.1.fCode ≠ 0
theorem sub_loop (m : Nat) (K : Rec21) (r : Nat) (p : S24) (d : Int) (hd : 0 ≤ d ∧ d ≤ 40)
    (hK : ∀ (q : S24) (k : Nat), k ≤ 200 → ∃ o, K.r21 (⟨(k : Int)⟩ : S45) q (d + 1) = some o ∧ Res k (Gd r q) o) : ∀ (M i k : Nat), i ≤ p.fSubs.length → i ≤ k → k ≤ 200 → 201 - k < M →
    ∃ o, iter (fun (y : Int × Int) => f21_B3 m K p d y.1 y.2) M ((i : Int), (k : Int)) = some o ∧
      (∀ z, o = .inr z → ∃ ns k', z.2 = ((k' : Nat) : Int) ∧ k ≤ k' ∧ k' ≤ 200 ∧ F2 (fun q n => Gd r (P24.vw q) n) (p.fSubs.drop i) ns ∧ k' = k + ns.sum) ∧ (∀ x, o = .inl x → x.1.fCode ≠ 0)
  | 0, i, k, _, _, _, h => by omega
  | M + 1, i, k, h1, hik, h2, h3 => by
    have hwd : w64 (d + 1) = d + 1 := w64_id ⟨by omega, by omega⟩
    unfold iter f21_B3
    dsimp only
    rw [hwd]
    rcases Nat.lt_or_ge i p.fSubs.length with hlt | hge
    · have hx := List.getElem?_eq_getElem hlt
      have e1 : idx p.fSubs (i : Int) = some p.fSubs[i] := by simp [idx, hx]
      obtain ⟨⟨f, c⟩, g1, g2⟩ := hK p.fSubs[i].vw k h2
      rw [decide_eq_true (by omega : (i : Int) < (p.fSubs.length : Int)), cnd_true, e1, bnd_some', g1, bnd_some']
      rcases g2 with ⟨rfl, k', rfl, g3, g4, g5⟩ | g2
      · have : (!(((⟨0, 0⟩ : S27).fCode == 0) && (((⟨0, 0⟩ : S27).fIndex == 0) && true))) = false := rfl
        rw [this, cnd_false]
        have hi : (i : Int) + 1 = ((i + 1 : Nat) : Int) := by omega
        have hwi : w64 ((i : Int) + 1) = ((i + 1 : Nat) : Int) := by rw [w64_id ⟨by omega, by omega⟩]; omega
        obtain ⟨o, q1, q2, q3⟩ := sub_loop m K r p d hd hK M (i + 1) k' hlt (by omega) g4 (by omega)
        refine ⟨o, ?_, fun z hz => ?_, q3⟩
        · show iter _ M (w64 ((i : Int) + 1), (k' : Int)) = _
          rw [hwi]
          unfold f21_B3 at q1
          rw [hwd] at q1
          exact q1
        · obtain ⟨ns, k2, w1, w2, w3, w4, w5⟩ := q2 z hz
          refine ⟨(k' - k) :: ns, k2, w1, by omega, w3, ?_, by rw [List.sum_cons]; omega⟩
          rw [List.drop_eq_getElem_cons hlt]
          exact ⟨g5, w4⟩
      · have : (!((f.fCode == 0) && ((f.fIndex == 0) && true))) = true := by
          have : (f.fCode == 0) = false := by simpa using g2
          rw [this]; rfl
        rw [this, cnd_true]
        refine ⟨_, rfl, ⟨fun z hz => (by cases hz), fun x hx => ?_⟩⟩
        cases hx
        exact g2
    · have : i = p.fSubs.length := by omega
      subst this
      rw [decide_eq_false (by omega), cnd_false]
      refine ⟨_, rfl, ⟨fun z hz => ?_, fun x hx => (by cases hx)⟩⟩
      cases hz
      refine ⟨[], k, rfl, Nat.le_refl _, h2, ?_, by simp⟩
      rw [List.drop_length]
      trivial
theorem nz {k : Nat} {c : Int} (h : c ≠ 0) (P : Nat → Prop) (x : Int) (y : S45) : Res k P ((⟨c, x⟩ : S27), y) := .inr h
theorem chk (m : Nat) (hm : 1000 ≤ m) : ∀ (r R : Nat) (d : Int) (k : Nat) (p : S24), r < R → d + r = 41 → 0 ≤ d → k ≤ 200 → ∃ o, (K21 m R).r21 (⟨(k : Int)⟩ : S45) p d = some o ∧ Res k (Gd r p) o
  | r, 0, d, k, p, h, _, _, _ => by omega
  | 0, R + 1, d, k, p, h1, h2, h3, h4 => by
    have e : b21 m (K21 m R) (⟨(k : Int)⟩ : S45) p d = some ((⟨2, (k : Int)⟩ : S27), (⟨w64 ((k : Int) + 1)⟩ : S45)) := by
      unfold b21 f21_r19
      have : decide (d > 40) = true := decide_eq_true (by omega)
      rw [this, Bool.or_true, cnd_true]
      rfl
    exact ⟨_, e, nz (by decide) _ _ _⟩
  | r + 1, R + 1, d, k, p, h1, h2, h3, h4 => by
    have hwk : w64 ((k : Int) + 1) = ((k + 1 : Nat) : Int) := by rw [w64_id ⟨by omega, by omega⟩]; omega
    show ∃ o, b21 m (K21 m R) (⟨(k : Int)⟩ : S45) p d = some o ∧ _
    unfold b21
    by_cases hk : k + 1 > 200
    · have : decide (w64 ((⟨(k : Int)⟩ : S45).fNodes + 1) > 200) = true := decide_eq_true (by show w64 ((k : Int) + 1) > 200; rw [hwk]; omega)
      rw [this, Bool.true_or]
      exact ⟨_, rfl, nz (by decide) _ _ _⟩
    · have e1 : decide (w64 ((⟨(k : Int)⟩ : S45).fNodes + 1) > 200) = false := decide_eq_false (by show ¬ w64 ((k : Int) + 1) > 200; rw [hwk]; omega)
      have e2 : decide (d > 40) = false := decide_eq_false (by omega)
      rw [e1, e2, Bool.or_false]
      -- the loops
      have subs : ∀ (h : OkN p), ∃ o, f21_j4 m (K21 m R) (⟨(k : Int)⟩ : S45) p d = some o ∧ Res k (Gd (r + 1) p) o := by
        intro hok
        unfold f21_j4
        show ∃ o, brk (iter _ m (0, w64 ((k : Int) + 1))) _ _ = _ ∧ _
        rw [hwk]
        obtain ⟨o, q1, q2, q3⟩ := sub_loop m (K21 m R) r p d ⟨h3, by omega⟩ (fun q k' hk' => chk m hm r R (d + 1) k' q (by omega) (by omega) (by omega) hk') m 0 (k + 1) (Nat.zero_le _) (Nat.zero_le _) (by omega) (by omega)
        have q1 : iter (fun (y : Int × Int) => f21_B3 m (K21 m R) p d y.1 y.2) m (0, ((k + 1 : Nat) : Int)) = some o := q1
        rw [q1]
        cases o with
        | inl x => exact ⟨x, rfl, .inr (q3 x rfl)⟩
        | inr z =>
          obtain ⟨ns, k', w1, w2, w3, w4, w5⟩ := q2 z rfl
          refine ⟨_, rfl, .inl ⟨rfl, k', by show (⟨z.2⟩ : S45) = _; rw [w1], by omega, w3, hok, ns, by simpa using w4, by omega⟩⟩
      have labs : ∀ c : Int, ((p.fSubs.length : Int) = c) → (p.fKind = 2 ↔ p.fLabels ≠ []) → p.fLabels.length ≤ 300 → (p.fKind ≠ 5 → p.fLeast = 0 → p.fMost = 0 → LabOk p.fLabels → OkN p) →
          (p.fKind = 5 → 0 ≤ p.fLeast → p.fLeast ≤ 9 → -1 ≤ p.fMost → p.fMost ≤ 9 → (0 ≤ p.fMost → p.fLeast ≤ p.fMost) → LabOk p.fLabels → OkN p) →
          ∃ o, f21_r10 m (K21 m R) (⟨(k : Int)⟩ : S45) p d false = some o ∧ Res k (Gd (r + 1) p) o := by
        intro c hc hset hlen hA hB
        unfold f21_r10
        rw [cnd_false]
        obtain ⟨o, q1, q2, q3⟩ := lab_loop m (K21 m R) k (by omega) p hlen m 0 (Nat.zero_le _) (by omega) (by simp) (by simp)
        have q1 : iter (fun (y : Int) => f21_B2 m (K21 m R) (⟨(k : Int)⟩ : S45) p y) m 0 = some o := q1
        rw [q1]
        cases o with
        | inl x => exact ⟨x, rfl, .inr (q3 x rfl).1⟩
        | inr z =>
          have hlab : LabOk p.fLabels := ⟨hlen, q2 z rfl⟩
          rw [brk_inr]
          by_cases h5 : p.fKind = 5
          · have e5 : (p.fKind == 5) = true := by simpa using h5
            rw [e5, cnd_true]
            unfold f21_r8 f21_r7 f21_r6
            by_cases hr : p.fLeast < 0 ∨ p.fLeast > 9 ∨ p.fMost < -1 ∨ p.fMost > 9
            · have : (((decide (p.fLeast < 0) || decide (p.fLeast > 9)) || decide (p.fMost < -1)) || decide (p.fMost > 9)) = true := by
                simp only [Bool.or_eq_true, decide_eq_true_eq]; omega
              rw [this, cnd_true]
              exact ⟨_, rfl, nz (by decide) _ _ _⟩
            · have : (((decide (p.fLeast < 0) || decide (p.fLeast > 9)) || decide (p.fMost < -1)) || decide (p.fMost > 9)) = false := by
                simp only [Bool.or_eq_false_iff, decide_eq_false_iff_not]; omega
              rw [this, cnd_false]
              unfold f21_r5
              by_cases ho : 0 ≤ p.fMost ∧ p.fMost < p.fLeast
              · have : (decide (p.fMost ≥ 0) && decide (p.fMost < p.fLeast)) = true := by simp only [Bool.and_eq_true, decide_eq_true_eq]; omega
                rw [this, cnd_true]
                exact ⟨_, rfl, nz (by decide) _ _ _⟩
              · have : (decide (p.fMost ≥ 0) && decide (p.fMost < p.fLeast)) = false := by
                  rw [Bool.and_eq_false_iff, decide_eq_false_iff_not, decide_eq_false_iff_not]; omega
                rw [this, cnd_false]
                exact subs (hB h5 (by omega) (by omega) (by omega) (by omega) (by omega) hlab)
          · have e5 : (p.fKind == 5) = false := by simpa using h5
            rw [e5, cnd_false]
            unfold f21_r9
            by_cases hz : p.fLeast = 0 ∧ p.fMost = 0
            · have : ((p.fLeast != 0) || (p.fMost != 0)) = false := by simp [hz.1, hz.2]
              rw [this, cnd_false]
              exact subs (hA h5 hz.1 hz.2 hlab)
            · have : ((p.fLeast != 0) || (p.fMost != 0)) = true := by
                simp only [Bool.or_eq_true, bne_iff_ne, ne_eq]; omega
              rw [this, cnd_true]
              exact ⟨_, rfl, nz (by decide) _ _ _⟩
      have counts : ∀ c : Int, (((p.fSubs.length : Int) = c) → (p.fKind = 2 ↔ p.fLabels ≠ []) → p.fLabels.length ≤ 300 → ∃ o, f21_r10 m (K21 m R) (⟨(k : Int)⟩ : S45) p d false = some o ∧ Res k (Gd (r + 1) p) o) → ∀ b,
          ∃ o, f21_j12 m (K21 m R) (⟨(k : Int)⟩ : S45) p d c b = some o ∧ Res k (Gd (r + 1) p) o := by
        intro c hgo b
        unfold f21_j12 f21_r11
        by_cases hbad : (((((p.fSubs.length : Int) != c) || (!((p.fKind == 2) == (decide ((p.fLabels.length : Int) > 0))))) || decide ((p.fLabels.length : Int) > 300))) = true
        · rw [hbad]
          unfold f21_r10
          exact ⟨_, rfl, nz (by decide) _ _ _⟩
        · have hb := Bool.eq_false_iff.2 hbad
          rw [hb]
          simp only [Bool.or_eq_false_iff, bne_eq_false_iff_eq, Bool.not_eq_false', decide_eq_false_iff_not, beq_iff_eq] at hb
          obtain ⟨⟨c1, c2⟩, c3⟩ := hb
          refine hgo c1 ?_ (by omega)
          have : (p.fKind == 2) = decide ((p.fLabels.length : Int) > 0) := c2
          constructor
          · intro h
            have h2 : decide ((p.fLabels.length : Int) > 0) = true := by rw [← this]; simpa using h
            intro h0
            rw [h0] at h2
            cases h2
          · intro h
            have h2 : decide ((p.fLabels.length : Int) > 0) = true := decide_eq_true (by have := List.length_pos_iff.2 h; omega)
            rw [h2] at this
            simpa using this
      -- the kinds
      have kinds : ∀ z : Int, p.fKind = z → ((p.fKind == z) = true) := fun z h => by simpa using h
      have nk : ∀ z : Int, p.fKind ≠ z → ((p.fKind == z) = false) := fun z h => by simpa using h
      have goA : ∀ c : Int, (((p.fSubs.length : Int) = c) → (p.fKind = 2 ↔ p.fLabels ≠ []) → p.fKind ≠ 5 → p.fLeast = 0 → p.fMost = 0 → LabOk p.fLabels → OkN p) → p.fKind ≠ 5 → ∀ b, ∃ o, f21_j12 m (K21 m R) (⟨(k : Int)⟩ : S45) p d c b = some o ∧ Res k (Gd (r + 1) p) o := by
        intro c hA h5
        exact counts c fun c1 c2 c3 => labs c c1 c2 c3 (fun g1 g2 g3 g4 => hA c1 c2 g1 g2 g3 g4) (fun h => absurd h h5)
      unfold f21_r19
      rw [cnd_false]
      by_cases k1 : p.fKind = 1
      · rw [kinds 1 k1, cnd_true]
        exact goA 0 (fun c1 c2 _ g2 g3 g4 => ⟨g4, c2, .inl ⟨.inl k1, by omega, g2, g3⟩⟩) (by omega) true
      rw [nk 1 k1, cnd_false]
      by_cases k2 : p.fKind = 2
      · rw [kinds 2 k2]
        exact goA 0 (fun c1 c2 _ g2 g3 g4 => ⟨g4, c2, .inl ⟨.inr k2, by omega, g2, g3⟩⟩) (by omega) true
      rw [nk 2 k2]
      unfold f21_j18
      rw [cnd_false]
      have two : (p.fKind = 3 ∨ p.fKind = 4) → ∃ o, f21_j14 m (K21 m R) (⟨(k : Int)⟩ : S45) p d false (if (p.fSubs.length : Int) > 2 then (p.fSubs.length : Int) else 2) = some o ∧ Res k (Gd (r + 1) p) o := by
        intro h34
        refine goA _ (fun c1 c2 _ g2 g3 g4 => ⟨g4, c2, .inr (.inl ⟨h34, ?_, g2, g3⟩)⟩) (by omega) false
        split at c1 <;> omega
      by_cases k3 : p.fKind = 3
      · rw [kinds 3 k3, cnd_true]
        exact two (.inl k3)
      rw [nk 3 k3, cnd_false]
      by_cases k4 : p.fKind = 4
      · rw [kinds 4 k4]
        exact two (.inr k4)
      rw [nk 4 k4]
      unfold f21_j17
      rw [cnd_false]
      by_cases k5 : p.fKind = 5
      · rw [kinds 5 k5, cnd_true]
        exact counts 1 (fun c1 c2 c3 => labs 1 c1 c2 c3 (fun h => absurd k5 h) (fun _ g1 g2 g3 g4 g5 g6 => ⟨g6, c2, .inr (.inr (.inl ⟨k5, by omega, g1, g2, g3, g4, g5⟩))⟩)) false
      rw [nk 5 k5, cnd_false]
      by_cases k6 : p.fKind = 6
      · rw [kinds 6 k6, cnd_true]
        exact goA 2 (fun c1 c2 _ g2 g3 g4 => ⟨g4, c2, .inr (.inr (.inr ⟨.inl k6, by omega, g2, g3⟩))⟩) (by omega) false
      rw [nk 6 k6, cnd_false]
      by_cases k7 : p.fKind = 7
      · rw [kinds 7 k7]
        exact goA 2 (fun c1 c2 _ g2 g3 g4 => ⟨g4, c2, .inr (.inr (.inr ⟨.inr k7, by omega, g2, g3⟩))⟩) (by omega) false
      rw [nk 7 k7]
      exact ⟨_, rfl, nz (by decide) _ _ _⟩
theorem f9_eq (m : Nat) (hm : 1000 ≤ m) (p : S24) : ∃ f, f9 m p = some f ∧ ((f = (⟨0, 0⟩ : S27) ∧ ∃ n, n ≤ 200 ∧ Gd 40 p n) ∨ f.fCode ≠ 0) := by
  obtain ⟨o, h1, h2⟩ := chk m hm 40 m 1 0 p (by omega) (by omega) (by omega) (by omega)
  have h1 : f21 m (⟨0⟩ : S45) p 1 = some o := h1
  refine ⟨o.1, by unfold f9; rw [h1]; rfl, ?_⟩
  rcases h2 with ⟨e, k', _, _, h3, h4⟩ | h
  · exact .inl ⟨e, _, by omega, h4⟩
  · exact .inr h
theorem Gd.pos : ∀ {r : Nat} {p : S24} {n : Nat}, Gd r p n → 1 ≤ n
  | 0, _, _, h => h.elim
  | r + 1, p, n, ⟨_, ns, _, h⟩ => by omega
theorem F2.len {α β : Type} {R : α → β → Prop} : ∀ {a : List α} {b : List β}, F2 R a b → a.length = b.length
  | [], [], _ => rfl
  | _ :: _, _ :: _, h => by rw [List.length_cons, List.length_cons, F2.len h.2]
  | [], _ :: _, h => h.elim
  | _ :: _, [], h => h.elim
theorem F2.sum {R : P24 → Nat → Prop} (hR : ∀ q n, R q n → 1 ≤ n) : ∀ {a : List P24} {b : List Nat}, F2 R a b → a.length ≤ b.sum
  | [], [], _ => Nat.le_refl _
  | _ :: _, _ :: _, h => by
    have := F2.sum hR h.2
    have := hR _ _ h.1
    rw [List.length_cons, List.sum_cons]; omega
  | [], _ :: _, h => h.elim
  | _ :: _, [], h => h.elim
theorem F2.mem {R : P24 → Nat → Prop} : ∀ {a : List P24} {b : List Nat}, F2 R a b → ∀ q ∈ a, ∃ k, R q k ∧ k ≤ b.sum
  | [], _, _, q, h => by cases h
  | x :: a, y :: b, h, q, hq => by
    rcases List.mem_cons.1 hq with rfl | hq
    · exact ⟨y, h.1, by rw [List.sum_cons]; omega⟩
    · obtain ⟨k, h1, h2⟩ := F2.mem h.2 q hq
      exact ⟨k, h1, by rw [List.sum_cons]; omega⟩
  | _ :: _, [], h, _, _ => h.elim
abbrev Lg : Type := List Int → Bool
def oneL : Lg := fun u => u.isEmpty
def catL (F G : Lg) : Lg := fun u => (List.range (u.length + 1)).any fun k => F (u.take k) && G (u.drop k)
theorem Lg.ext {F G : Lg} (h : ∀ u, F u = true ↔ G u = true) : F = G := funext fun u => Bool.eq_iff_iff.2 (h u)
theorem oneL_iff (u : List Int) : oneL u = true ↔ u = [] := by simp [oneL]
theorem catL_iff (F G : Lg) (u : List Int) : catL F G u = true ↔ ∃ x y, u = x ++ y ∧ F x = true ∧ G y = true := by
  unfold catL
  rw [List.any_eq_true]
  constructor
  · rintro ⟨k, _, h⟩
    rw [Bool.and_eq_true] at h
    exact ⟨u.take k, u.drop k, (List.take_append_drop k u).symm, h.1, h.2⟩
  · rintro ⟨x, y, rfl, h1, h2⟩
    exact ⟨x.length, List.mem_range.2 (by simp; omega), by simp [h1, h2]⟩
theorem cat_assoc (F G H : Lg) : catL (catL F G) H = catL F (catL G H) := Lg.ext fun u => by
  simp only [catL_iff]
  constructor
  · rintro ⟨xy, z, rfl, ⟨x, y, rfl, h1, h2⟩, h3⟩
    exact ⟨x, y ++ z, by simp, h1, y, z, rfl, h2, h3⟩
  · rintro ⟨x, yz, rfl, h1, y, z, rfl, h2, h3⟩
    exact ⟨x ++ y, z, by simp, ⟨x, y, rfl, h1, h2⟩, h3⟩
theorem one_cat (F : Lg) : catL oneL F = F := Lg.ext fun u => by
  rw [catL_iff]
  constructor
  · rintro ⟨x, y, rfl, h1, h2⟩
    rw [(oneL_iff x).1 h1]; exact h2
  · intro h; exact ⟨[], u, rfl, rfl, h⟩
theorem cat_one (F : Lg) : catL F oneL = F := Lg.ext fun u => by
  rw [catL_iff]
  constructor
  · rintro ⟨x, y, rfl, h1, h2⟩
    rw [(oneL_iff y).1 h2, List.append_nil]; exact h1
  · intro h; exact ⟨u, [], by simp, h, rfl⟩
def pwL (F : Lg) : Nat → Lg
  | 0 => oneL
  | t + 1 => catL (pwL F t) F
theorem pwL_left (F : Lg) : ∀ t, pwL F (t + 1) = catL F (pwL F t)
  | 0 => by
    show catL oneL F = catL F oneL
    rw [one_cat, cat_one]
  | t + 1 => by
    show catL (pwL F (t + 1)) F = catL F (catL (pwL F t) F)
    rw [← cat_assoc, ← pwL_left F t]
theorem pwL_drop (F : Lg) : ∀ (t : Nat) (u : List Int), u.length ≤ t → pwL F (t + 1) u = true → pwL F t u = true
  | 0, u, hl, h => by
    have : u = [] := List.eq_nil_of_length_eq_zero (by omega)
    subst this; rfl
  | t + 1, u, hl, h => by
    obtain ⟨x, y, rfl, h1, h2⟩ := (catL_iff _ _ _).1 h
    by_cases hy : y = []
    · subst hy; rw [List.append_nil]; exact h1
    · have hyl : 0 < y.length := List.length_pos_iff.2 hy
      rw [List.length_append] at hl
      exact (catL_iff _ _ _).2 ⟨x, y, rfl, pwL_drop F t x (by omega) h1, h2⟩
theorem pwL_less (F : Lg) (l : Nat) (u : List Int) : ∀ t, pwL F (l + t) u = true → ∃ t', t' ≤ u.length ∧ pwL F (l + t') u = true
  | 0, h => ⟨0, Nat.zero_le _, h⟩
  | t + 1, h => if ht : t + 1 ≤ u.length then ⟨t + 1, ht, h⟩ else pwL_less F l u t (pwL_drop F (l + t) u (by omega) h)
theorem pwL_many (F : Lg) (l : Nat) (u : List Int) (n : Nat) (hn : u.length ≤ n) : ((List.range (n + 1)).any fun t => pwL F (l + t) u) = (List.range (u.length + 1)).any fun t => pwL F (l + t) u := by
  rw [Bool.eq_iff_iff, List.any_eq_true, List.any_eq_true]
  constructor
  · rintro ⟨t, _, h⟩
    obtain ⟨t', h1, h2⟩ := pwL_less F l u t h
    exact ⟨t', List.mem_range.2 (by omega), h2⟩
  · rintro ⟨t, ht, h⟩
    have := List.mem_range.1 ht
    exact ⟨t, List.mem_range.2 (by omega), h⟩
def repL (F : Lg) (least most : Int) : Lg := fun u => (List.range ((if most < 0 then u.length else (most - least).toNat) + 1)).any fun t => pwL F (least.toNat + t) u
theorem repL_iff {F : Lg} {least most : Int} (h0 : 0 ≤ least) (hm : most < 0 ∨ least ≤ most) (u : List Int) : repL F least most u = true ↔ ∃ n : Nat, least ≤ (n : Int) ∧ (most < 0 ∨ (n : Int) ≤ most) ∧ pwL F n u = true := by
  unfold repL
  rw [List.any_eq_true]
  constructor
  · rintro ⟨t, ht, h⟩
    have ht := List.mem_range.1 ht
    refine ⟨least.toNat + t, by omega, ?_, h⟩
    by_cases hc : most < 0
    · exact .inl hc
    · rw [if_neg hc] at ht; right; omega
  · rintro ⟨n, h1, h2, h3⟩
    by_cases hc : most < 0
    · rw [if_pos hc]
      obtain ⟨t', g1, g2⟩ := pwL_less F least.toNat u (n - least.toNat) (by rw [show least.toNat + (n - least.toNat) = n by omega]; exact h3)
      exact ⟨t', List.mem_range.2 (by omega), g2⟩
    · rw [if_neg hc]
      exact ⟨n - least.toNat, List.mem_range.2 (by omega), by rw [show least.toNat + (n - least.toNat) = n by omega]; exact h3⟩
def setL (ls : List Int) : Lg := fun u => match u with
  | [x] => ls.contains x
  | _ => false
def foldL (l : List Lg) : Lg := l.foldl catL oneL
def noL : Lg := fun _ => false
def eachL (k : Int) (l : List Lg) : Lg := fun u =>
  if k = 4 then (l.headD noL) u || l.tail.any (fun F => F u)
  else if k = 6 then (l.headD noL) u && l.tail.any (fun F => F u)
  else if k = 7 then (l.headD noL) u && !(l.tail.any fun F => F u) else false
noncomputable def lang : Nat → S24 → Lg
  | 0, _ => noL
  | r + 1, p =>
    if p.fKind = 1 then oneL else if p.fKind = 2 then setL p.fLabels
    else if p.fKind = 3 then foldL (p.fSubs.map fun q => lang r q.vw)
    else if p.fKind = 5 then repL ((p.fSubs.map fun q => lang r q.vw).headD noL) p.fLeast p.fMost
    else eachL p.fKind (p.fSubs.map fun q => lang r q.vw)
def partW (w : List Int) (i j : Nat) : List Int := (w.drop i).take (j - i)
theorem partW_len (w : List Int) {i j : Nat} (hj : j ≤ w.length) : (partW w i j).length = j - i := by
  unfold partW; rw [List.length_take, List.length_drop]; omega
theorem partW_split (w : List Int) {i k j : Nat} (h1 : i ≤ k) (h2 : k ≤ j) : partW w i j = partW w i k ++ partW w k j := by
  unfold partW
  rw [show j - i = (k - i) + (j - k) by omega, List.take_add, List.drop_drop, show i + (k - i) = k by omega]
theorem partW_all (w : List Int) : partW w 0 w.length = w := by simp [partW]
theorem partW_left (w : List Int) (i : Nat) : partW w 0 i = w.take i := by simp [partW]
def Loc (w : List Int) (s : Tb) (F : Lg) : Prop := ∀ i j, i ≤ w.length → j ≤ w.length → cell s i j = (decide (i ≤ j) && F (partW w i j))
theorem Loc.iff {w : List Int} {s : Tb} {F : Lg} (h : Loc w s F) {i j : Nat} (hi : i ≤ w.length) (hj : j ≤ w.length) : cell s i j = true ↔ i ≤ j ∧ F (partW w i j) = true := by
  rw [h i j hi hj, Bool.and_eq_true, decide_eq_true_eq]
theorem Loc.of {w : List Int} {s : Tb} {F : Lg} (h : ∀ i j, i ≤ w.length → j ≤ w.length → (cell s i j = true ↔ i ≤ j ∧ F (partW w i j) = true)) : Loc w s F := fun i j hi hj => by
  rw [Bool.eq_iff_iff, h i j hi hj, Bool.and_eq_true, decide_eq_true_eq]
theorem Loc.congr {w : List Int} {s : Tb} {F G : Lg} (h : Loc w s F) (e : ∀ u : List Int, u.length ≤ w.length → F u = G u) : Loc w s G := fun i j hi hj => by
  rw [h i j hi hj, e _ (by rw [partW_len w hj]; omega)]
theorem loc_id (w : List Int) : Loc w (idM (w.length + 1)) oneL := Loc.of fun i j hi hj => by
  rw [idM_mk, mkM_cell (by omega) (by omega), decide_eq_true_eq, oneL_iff]
  constructor
  · rintro rfl
    exact ⟨Nat.le_refl _, List.eq_nil_of_length_eq_zero (by rw [partW_len w hj]; omega)⟩
  · rintro ⟨h1, h2⟩
    have := partW_len w (i := i) hj
    rw [h2] at this
    simp at this
    omega
theorem loc_set (ls w : List Int) : Loc w (setM ls w) (setL ls) := fun i j hi hj => by
  unfold setM
  rw [mkM_cell (by omega) (by omega)]
  have hl := partW_len w (i := i) hj
  by_cases h : j = i + 1
  · subst h
    have hx : w[i]? = some w[i] := List.getElem?_eq_getElem (by omega)
    have e : partW w i (i + 1) = [w[i]] := by
      unfold partW
      rw [show i + 1 - i = 1 by omega, List.drop_eq_getElem_cons (by omega)]
      rfl
    rw [e, hx]
    simp [setL]
  · rw [decide_eq_false h, Bool.false_and]
    by_cases h2 : i ≤ j
    · have : setL ls (partW w i j) = false := by
        generalize partW w i j = u at hl ⊢
        match u, hl with
        | [], _ => rfl
        | [x], hl => simp at hl; omega
        | _ :: _ :: _, _ => rfl
      rw [this, Bool.and_false]
    · rw [decide_eq_false h2, Bool.false_and]
theorem cell_then {a b : Tb} {N i j : Nat} (hi : i < N) (hj : j < N) : cell (thenM a b N) i j = true ↔ ∃ k, k < N ∧ cell a i k = true ∧ cell b k j = true := by
  have e : cell (thenM a b N) i j = (List.range N).any fun u => cell a i u && cell b u j := by
    have e1 : (thenM a b N).getD i [] = pr a b N i N 0 := by
      unfold thenM
      rw [List.getD_eq_getElem?_getD, List.getElem?_map, List.getElem?_range hi]; rfl
    show ((thenM a b N).getD i []).getD j false = _
    rw [e1, List.getD_eq_getElem?_getD, pr_get a b N i N 0 j hj]
    simp
  rw [e, List.any_eq_true]
  constructor
  · rintro ⟨k, hk, h⟩
    rw [Bool.and_eq_true] at h
    exact ⟨k, List.mem_range.1 hk, h.1, h.2⟩
  · rintro ⟨k, hk, h1, h2⟩
    exact ⟨k, List.mem_range.2 hk, by rw [h1, h2]; rfl⟩
theorem Loc.then {w : List Int} {a b : Tb} {F G : Lg} (ha : Loc w a F) (hb : Loc w b G) : Loc w (thenM a b (w.length + 1)) (catL F G) := Loc.of fun i j hi hj => by
  rw [cell_then (by omega) (by omega), catL_iff]
  constructor
  · rintro ⟨k, hk, h1, h2⟩
    obtain ⟨h3, h4⟩ := (ha.iff hi (by omega)).1 h1
    obtain ⟨h5, h6⟩ := (hb.iff (by omega) hj).1 h2
    exact ⟨by omega, _, _, partW_split w h3 h5, h4, h6⟩
  · rintro ⟨hij, x, y, e, h1, h2⟩
    have hl := partW_len w (i := i) hj
    rw [e, List.length_append] at hl
    have hs := partW_split w (i := i) (k := i + x.length) (j := j) (by omega) (by omega)
    rw [e] at hs
    have hx : (partW w i (i + x.length)).length = x.length := by rw [partW_len w (by omega)]; omega
    obtain ⟨e1, e2⟩ := List.append_inj hs hx.symm
    exact ⟨i + x.length, by omega, (ha.iff hi (by omega)).2 ⟨by omega, by rw [← e1]; exact h1⟩, (hb.iff (by omega) hj).2 ⟨by omega, by rw [← e2]; exact h2⟩⟩
theorem loc_fold {α : Type} (w : List Int) (f : α → Tb) (g : α → Lg) : ∀ (l : List α), (∀ x ∈ l, Loc w (f x) (g x)) → ∀ (m : Tb) (F : Lg), Loc w m F → Loc w ((l.map f).foldl (fun m s => thenM m s (w.length + 1)) m) ((l.map g).foldl catL F)
  | [], _, m, F, h => h
  | x :: l, hl, m, F, h => loc_fold w f g l (fun y hy => hl y (List.mem_cons_of_mem _ hy)) _ _ (h.then (hl x List.mem_cons_self))
theorem loc_pow {w : List Int} {s : Tb} {F : Lg} (h : Loc w s F) : ∀ t, Loc w (powM s (w.length + 1) t (idM (w.length + 1))) (pwL F t)
  | 0 => loc_id w
  | t + 1 => by rw [powM_succ]; exact (loc_pow h t).then h
theorem loc_rep {w : List Int} {s : Tb} {F : Lg} (h : Loc w s F) : ∀ (t : Nat) (m part : Tb) (M : Lg) (q : Nat), Loc w m M → Loc w part (pwL F q) → Loc w (repM s (w.length + 1) t m part) (fun u => M u || (List.range t).any fun e => pwL F (q + 1 + e) u)
  | 0, m, part, M, q, hm, hp => by
    refine hm.congr fun u _ => ?_
    simp
  | t + 1, m, part, M, q, hm, hp => by
    have hp' : Loc w (thenM part s (w.length + 1)) (pwL F (q + 1)) := hp.then h
    have hm' : Loc w (orM m (thenM part s (w.length + 1)) (w.length + 1)) (fun u => M u || pwL F (q + 1) u) := fun i j hi hj => by
      unfold orM
      rw [mkM_cell (by omega) (by omega), hm i j hi hj, hp' i j hi hj]
      cases decide (i ≤ j) <;> simp
    refine (loc_rep h t _ _ _ (q + 1) hm' hp').congr fun u _ => ?_
    rw [List.range_succ_eq_map, List.any_cons, List.any_map, Bool.or_assoc]
    have e : (fun e => pwL F (q + 1 + 1 + e) u) = ((fun e => pwL F (q + 1 + e) u) ∘ Nat.succ) := by
      funext e
      show _ = pwL F (q + 1 + (e + 1)) u
      rw [show q + 1 + (e + 1) = q + 1 + 1 + e by omega]
    rw [e]
theorem loc_each {α : Type} (w : List Int) (k : Int) (f : α → Tb) (g : α → Lg) (l : List α) (hne : l ≠ []) (hl : ∀ x ∈ l, Loc w (f x) (g x)) : Loc w (eachM k (l.map f) (w.length + 1)) (eachL k (l.map g)) := fun i j hi hj => by
  unfold eachM
  rw [mkM_cell (by omega) (by omega)]
  cases l with
  | nil => exact absurd rfl hne
  | cons x l =>
    have h0 := hl x List.mem_cons_self i j hi hj
    have h1 : ((x :: l).map f).tail.any (fun s => cell s i j) = (decide (i ≤ j) && ((x :: l).map g).tail.any (fun F => F (partW w i j))) := by
      show (l.map f).any _ = (_ && (l.map g).any _)
      have hl' : ∀ y ∈ l, cell (f y) i j = (decide (i ≤ j) && g y (partW w i j)) := fun y hy => hl y (List.mem_cons_of_mem _ hy) i j hi hj
      clear hl h0 hne
      induction l with
      | nil => simp
      | cons y l ih =>
        rw [List.map_cons, List.any_cons, ih (fun z hz => hl' z (List.mem_cons_of_mem _ hz)), hl' y List.mem_cons_self, List.map_cons, List.any_cons]
        cases decide (i ≤ j) <;> simp
    have h2 : cell (((x :: l).map f).headD []) i j = (decide (i ≤ j) && ((x :: l).map g).headD noL (partW w i j)) := h0
    rw [h1, h2]
    unfold eachL
    by_cases hij : i ≤ j
    · rw [decide_eq_true hij]; simp only [Bool.true_and]
    · rw [decide_eq_false hij]; simp
theorem mtx_loc : ∀ (r : Nat) (p : S24) (w : List Int), OkM r p → Loc w (mtx r p w) (lang r p)
  | 0, _, _, h => h.elim
  | r + 1, p, w, h => by
    obtain ⟨h1, h2, h3, h4, h5, h6⟩ := h
    have hs : ∀ q ∈ p.fSubs, Loc w (mtx r q.vw w) (lang r q.vw) := fun q hq => mtx_loc r q.vw w (h4 q hq)
    unfold mtx lang
    by_cases k1 : p.fKind = 1
    · rw [if_pos k1, if_pos k1]; exact loc_id w
    rw [if_neg k1, if_neg k1]
    by_cases k2 : p.fKind = 2
    · rw [if_pos k2, if_pos k2]; exact loc_set _ _
    rw [if_neg k2, if_neg k2]
    by_cases k3 : p.fKind = 3
    · rw [if_pos k3, if_pos k3]; exact loc_fold w _ _ p.fSubs hs _ _ (loc_id w)
    rw [if_neg k3, if_neg k3]
    by_cases k5 : p.fKind = 5
    · rw [if_pos k5, if_pos k5]
      obtain ⟨h51, h52, _, _, _⟩ := h5 k5
      have hh : Loc w ((p.fSubs.map fun q => mtx r q.vw w).headD []) ((p.fSubs.map fun q => lang r q.vw).headD noL) := by
        revert hs h51
        generalize p.fSubs = l
        intro hs h51
        match l, h51 with
        | [q], _ => exact hs q List.mem_cons_self
      refine (loc_rep hh _ _ _ _ _ (loc_pow hh _) (loc_pow hh _)).congr fun u hu => ?_
      generalize ((p.fSubs.map fun q => lang r q.vw).headD noL) = F
      have e : ∀ n, (pwL F p.fLeast.toNat u || (List.range n).any fun e => pwL F (p.fLeast.toNat + 1 + e) u) = (List.range (n + 1)).any fun t => pwL F (p.fLeast.toNat + t) u := fun n => by
        rw [List.range_succ_eq_map, List.any_cons, List.any_map]
        have e : (fun e => pwL F (p.fLeast.toNat + 1 + e) u) = ((fun e => pwL F (p.fLeast.toNat + e) u) ∘ Nat.succ) := by
          funext e
          show _ = pwL F (p.fLeast.toNat + (e + 1)) u
          rw [show p.fLeast.toNat + (e + 1) = p.fLeast.toNat + 1 + e by omega]
        rw [e]
        rfl
      rw [e]
      unfold repL
      by_cases hm : p.fMost < 0
      · rw [if_pos hm, if_pos hm]; exact pwL_many F _ u _ hu
      · rw [if_neg hm, if_neg hm]
    rw [if_neg k5, if_neg k5]
    exact loc_each w _ _ _ _ (h6 k1 k2 k3 k5) hs
theorem mtx_lang (r : Nat) (p : S24) (w : List Int) (h : OkM r p) : cell (mtx r p w) 0 w.length = lang r p w := by
  rw [mtx_loc r p w h 0 w.length (Nat.zero_le _) (Nat.le_refl _), partW_all]; simp
theorem OkM_succ : ∀ (r : Nat) (p : S24), OkM r p → OkM (r + 1) p
  | 0, _, h => h.elim
  | r + 1, p, ⟨h1, h2, h3, h4, h5⟩ => ⟨h1, h2, h3, fun q hq => OkM_succ r q.vw (h4 q hq), h5⟩
theorem lang_succ : ∀ (r : Nat) (p : S24), OkM r p → lang (r + 1) p = lang r p
  | 0, _, h => h.elim
  | r + 1, p, ⟨h1, h2, h3, h4, h5⟩ => by
    have e : (p.fSubs.map fun q => lang (r + 1) q.vw) = p.fSubs.map fun q => lang r q.vw := List.map_congr_left fun q hq => lang_succ r q.vw (h4 q hq)
    rw [lang, e, lang]
instance decS27 (a b : S27) : Decidable (a = b) := decidable_of_iff (a.fCode = b.fCode ∧ a.fIndex = b.fIndex) (by cases a; cases b; simp)
theorem Gd.okM : ∀ (r : Nat) (p : S24) (n : Nat), n ≤ 200 → Gd r p n → OkM r p
  | 0, _, _, _, h => h.elim
  | r + 1, p, n, hn, ⟨⟨⟨hl1, hl2, hl3⟩, hk2, hk⟩, ns, hF, e⟩ => by
    have hs : p.fSubs.length ≤ ns.sum := F2.sum (fun q n h => Gd.pos h) hF
    refine ⟨hl1, hl3, by omega, fun q hq => ?_, fun h5 => ?_, fun h1 h2 h3 h5 he => ?_⟩
    · obtain ⟨k, g2, g1⟩ := hF.mem q hq
      exact Gd.okM r q.vw k (by omega) g2
    · rcases hk with ⟨h, _⟩ | ⟨h, _⟩ | ⟨_, g1, g2, g3, g4, g5, _⟩ | ⟨h, _⟩
      · omega
      · omega
      · exact ⟨g1, g2, g3, g4, g5⟩
      · omega
    · rw [he] at hk
      simp only [List.length_nil] at hk
      omega
theorem OkM_le {r : Nat} {p : S24} (h : OkM r p) : ∀ k, OkM (r + k) p
  | 0 => h
  | k + 1 => OkM_succ _ _ (OkM_le h k)
theorem lang_le {r : Nat} {p : S24} (h : OkM r p) : ∀ k, lang (r + k) p = lang r p
  | 0 => rfl
  | k + 1 => by rw [← lang_le h k]; exact lang_succ _ _ (OkM_le h k)
def VOk (m : Nat) (p : S24) : Prop := f9 m p = some (⟨0, 0⟩ : S27)
theorem VOk.okM {m : Nat} (hm : 1000 ≤ m) {p : S24} (h : VOk m p) : OkM 40 p := by
  obtain ⟨f, h1, h2⟩ := f9_eq m hm p
  have e : f = (⟨0, 0⟩ : S27) := Option.some.inj (h1.symm.trans h)
  subst e
  rcases h2 with ⟨_, n, h3, h4⟩ | h2
  · exact Gd.okM 40 p n h3 h4
  · exact absurd rfl h2
def WOk (w : List Int) : Prop := w.length ≤ 30 ∧ ∀ x ∈ w, 1 ≤ x ∧ x ≤ 1114111
theorem WOk.take {w : List Int} (h : WOk w) (i : Nat) : WOk (w.take i) := ⟨by rw [List.length_take]; have := h.1; omega, fun x hx => h.2 x (List.mem_of_mem_take hx)⟩
theorem WOk.drop {w : List Int} (h : WOk w) (i : Nat) : WOk (w.drop i) := ⟨by rw [List.length_drop]; have := h.1; omega, fun x hx => h.2 x (List.mem_of_mem_drop hx)⟩
theorem f16_loop (m : Nat) (l : List Int) (hl : l.length ≤ 1000) : ∀ (M i : Nat), i ≤ l.length → l.length < M + i →
    iter (fun (y : Int) => f16_B2 m l y) M (i : Int) = some (if ∀ x ∈ l.drop i, 1 ≤ x ∧ x ≤ 1114111 then .inr (l.length : Int) else .inl (false, (⟨3, -2⟩ : S27)))
  | 0, i, h1, h2 => by omega
  | M + 1, i, h1, h2 => by
    unfold iter
    rcases Nat.lt_or_ge i l.length with hlt | hge
    · have hx := List.getElem?_eq_getElem hlt
      have e1 : idx l (i : Int) = some l[i] := by simp [idx, hx]
      have hwi : w64 ((i : Int) + 1) = ((i + 1 : Nat) : Int) := by rw [w64_id ⟨by omega, by omega⟩]; omega
      have hf : f23 m 3 (-2) = some (⟨3, -2⟩ : S27) := rfl
      rw [List.drop_eq_getElem_cons hlt]
      by_cases hc : 1 ≤ l[i] ∧ l[i] ≤ 1114111
      · have hB : f16_B2 m l (i : Int) = some (.nxt ((i + 1 : Nat) : Int)) := by
          unfold f16_B2
          rw [decide_eq_true (by omega : (i : Int) < (l.length : Int)), cnd_true, e1, bnd_some']
          unfold f16_r1
          rw [decide_eq_false (by omega : ¬ l[i] < 1), decide_eq_false (by omega : ¬ l[i] > 1114111)]
          rw [Bool.or_false, cnd_false, hwi]
        rw [hB]
        show iter (fun (y : Int) => f16_B2 m l y) M ((i + 1 : Nat) : Int) = _
        rw [f16_loop m l hl M (i + 1) hlt (by omega)]
        congr 1
        by_cases h3 : ∀ x ∈ l.drop (i + 1), 1 ≤ x ∧ x ≤ 1114111
        · rw [if_pos h3, if_pos (fun x hx => by
            rcases List.mem_cons.1 hx with rfl | hx
            · exact hc
            · exact h3 x hx)]
        · rw [if_neg h3, if_neg (fun h => h3 fun x hx => h x (List.mem_cons_of_mem _ hx))]
      · have hB : f16_B2 m l (i : Int) = some (.ret (false, (⟨3, -2⟩ : S27))) := by
          unfold f16_B2
          rw [decide_eq_true (by omega : (i : Int) < (l.length : Int)), cnd_true, e1, bnd_some']
          unfold f16_r1
          have hb : (decide (l[i] < 1) || decide (l[i] > 1114111)) = true := by
            rw [Bool.or_eq_true, decide_eq_true_eq, decide_eq_true_eq]; omega
          rw [hb, cnd_true, hf, bnd_some']
        rw [hB, if_neg (fun h => hc (h _ List.mem_cons_self))]
    · have : i = l.length := by omega
      subst this
      have hB : f16_B2 m l (l.length : Int) = some (.brk (l.length : Int)) := by
        unfold f16_B2
        rw [decide_eq_false (by omega), cnd_false]
      rw [hB, List.drop_length, if_pos (fun x hx => by cases hx)]
theorem zero27 (f : S27) : ((f.fCode == 0) && ((f.fIndex == 0) && true)) = decide (f = (⟨0, 0⟩ : S27)) := by
  obtain ⟨a, b⟩ := f
  rw [Bool.eq_iff_iff, Bool.and_true, Bool.and_eq_true, beq_iff_eq, beq_iff_eq, decide_eq_true_eq, S27.mk.injEq]
noncomputable def wordF (w : List Int) : S27 := if w.length ≤ 30 then (if ∀ x ∈ w, 1 ≤ x ∧ x ≤ 1114111 then ⟨0, 0⟩ else ⟨3, -2⟩) else ⟨2, -2⟩
theorem wordF_ok {w : List Int} : wordF w = (⟨0, 0⟩ : S27) ↔ WOk w := by
  unfold wordF WOk
  by_cases h : w.length ≤ 30
  · rw [if_pos h]
    by_cases h2 : ∀ x ∈ w, 1 ≤ x ∧ x ≤ 1114111
    · rw [if_pos h2]; exact ⟨fun _ => ⟨h, h2⟩, fun _ => rfl⟩
    · rw [if_neg h2]; exact ⟨fun e => (by cases e), fun e => absurd e.2 h2⟩
  · rw [if_neg h]; exact ⟨fun e => (by cases e), fun e => absurd e.1 h⟩
theorem f16_exact (m : Nat) (hm : 1000 ≤ m) (p : S24) (w : List Int) (f : S27) (h1 : f9 m p = some f) :
    f16 m p w = some (if f = (⟨0, 0⟩ : S27) then (if wordF w = (⟨0, 0⟩ : S27) then (lang 70 p w, (⟨0, 0⟩ : S27)) else (false, wordF w)) else (false, f)) := by
  by_cases hf : f = (⟨0, 0⟩ : S27)
  case neg =>
    rw [if_neg hf]
    unfold f16
    rw [h1, bnd_some', zero27, decide_eq_false hf, Bool.not_false, cnd_true]
  rw [if_pos hf]
  subst hf
  have hV : VOk m p := h1
  have e0 : f16 m p w = cnd (decide ((w.length : Int) > 30)) (bnd (f23 m 2 (-2)) fun v2 => some ((false, v2))) (brk (iter (fun (y : Int) => f16_B2 m w y) m 0) some fun y42 =>
      bnd (f33 m p w) fun v44 => bnd (idx v44 0) fun v45 => bnd (idx v45 (w.length : Int)) fun v46 => some ((v46, (⟨0, 0⟩ : S27)))) := by
    unfold f16
    rw [h1, bnd_some', zero27, decide_eq_true rfl, Bool.not_true, cnd_false]
  unfold wordF
  by_cases hl : w.length ≤ 30
  case neg =>
    rw [e0, decide_eq_true (by omega), cnd_true, if_neg hl, if_neg (fun e => by cases e)]
    rfl
  have hlp := f16_loop m w (by omega) m 0 (Nat.zero_le _) (by omega)
  rw [List.drop_zero] at hlp
  have hlp : iter (fun (y : Int) => f16_B2 m w y) m 0 = _ := hlp
  rw [e0, decide_eq_false (by omega), cnd_false, hlp, if_pos hl]
  by_cases hx : ∀ x ∈ w, 1 ≤ x ∧ x ≤ 1114111
  case neg =>
    rw [if_neg hx, if_neg hx, if_neg (fun e => by cases e)]
    rfl
  rw [if_pos hx, if_pos hx, if_pos rfl]
  have hO : OkM 70 p := OkM_le (hV.okM hm) 30
  have hsq := mtx_sq 70 p w hO
  have h33 : f33 m p w = some (mtx 70 p w) := by unfold f33; rw [if_pos ⟨hO, by omega⟩]
  obtain ⟨r0, hr0, _, hrc⟩ := hsq.row (i := 0) (by omega)
  have i1 : idx (mtx 70 p w) (0 : Int) = some r0 := by simp [idx, hr0]
  have i2 : idx r0 (w.length : Int) = some (cell (mtx 70 p w) 0 w.length) := by simp [idx, hrc w.length (by omega)]
  show bnd (f33 m p w) _ = _
  rw [h33, bnd_some', i1, bnd_some', i2, bnd_some', mtx_lang 70 p w hO]
theorem f16_eq (m : Nat) (hm : 1000 ≤ m) (p : S24) (w : List Int) : ∃ o, f16 m p w = some o ∧ (VOk m p ∧ WOk w ∧ o = (lang 70 p w, (⟨0, 0⟩ : S27)) ∨ ¬ (VOk m p ∧ WOk w) ∧ o.2 ≠ (⟨0, 0⟩ : S27)) := by
  obtain ⟨f, h1, h2⟩ := f9_eq m hm p
  refine ⟨_, f16_exact m hm p w f h1, ?_⟩
  by_cases hf : f = (⟨0, 0⟩ : S27)
  case neg =>
    rw [if_neg hf]
    exact .inr ⟨fun h => hf (Option.some.inj (h1.symm.trans h.1)), hf⟩
  rw [if_pos hf]
  subst hf
  by_cases hw : wordF w = (⟨0, 0⟩ : S27)
  · rw [if_pos hw]; exact .inl ⟨h1, wordF_ok.1 hw, rfl⟩
  · rw [if_neg hw]; exact .inr ⟨fun h => hw (wordF_ok.2 h.2), hw⟩
noncomputable def twoP (k : Int) (p q : S24) : S24 := ⟨k, [], [P24.con p, P24.con q], 0, 0⟩
theorem lang_two4 {p q : S24} (hp : OkM 69 p) (hq : OkM 69 q) (w : List Int) : lang 70 (twoP 4 p q) w = (lang 70 p w || lang 70 q w) := by
  rw [lang_succ 69 p hp, lang_succ 69 q hq]
  show (lang 69 (P24.con p).vw w || ([P24.con q].map fun q => lang 69 q.vw).any (fun F => F w)) = _
  simp [P24.vw_con]
theorem lang_two6 {p q : S24} (hp : OkM 69 p) (hq : OkM 69 q) (w : List Int) : lang 70 (twoP 6 p q) w = (lang 70 p w && lang 70 q w) := by
  rw [lang_succ 69 p hp, lang_succ 69 q hq]
  show (lang 69 (P24.con p).vw w && ([P24.con q].map fun q => lang 69 q.vw).any (fun F => F w)) = _
  simp [P24.vw_con]
theorem lang_two7 {p q : S24} (hp : OkM 69 p) (hq : OkM 69 q) (w : List Int) : lang 70 (twoP 7 p q) w = (lang 70 p w && !(lang 70 q w)) := by
  rw [lang_succ 69 p hp, lang_succ 69 q hq]
  show (lang 69 (P24.con p).vw w && !(([P24.con q].map fun q => lang 69 q.vw).any (fun F => F w))) = _
  simp [P24.vw_con]
theorem lang_two3 {p q : S24} (hp : OkM 69 p) (hq : OkM 69 q) (w : List Int) : lang 70 (twoP 3 p q) w = catL (lang 70 p) (lang 70 q) w := by
  rw [lang_succ 69 p hp, lang_succ 69 q hq]
  show catL (catL oneL (lang 69 (P24.con p).vw)) (lang 69 (P24.con q).vw) w = _
  rw [one_cat, P24.vw_con, P24.vw_con]
theorem f7_loop (m : Nat) (hm : 1000 ≤ m) (p q : S24) (w : List Int) (hp : VOk m p) (hq : VOk m q) (hw : WOk w) : ∀ (M i : Nat) (b : Bool), i ≤ w.length + 1 → w.length + 1 < M + i →
    b = ((List.range i).any fun k => lang 70 p (w.take k) && lang 70 q (w.drop k)) →
    iter (fun (y : Bool × Int) => f7_B3 m p q w y.1 y.2) M (b, (i : Int)) = some (.inr (catL (lang 70 p) (lang 70 q) w, ((w.length + 1 : Nat) : Int)))
  | 0, i, b, h1, h2, _ => by omega
  | M + 1, i, b, h1, h2, hb => by
    have hwl := hw.1
    unfold iter
    dsimp only
    rcases Nat.lt_or_ge i (w.length + 1) with hlt | hge
    · have hwi : w64 ((i : Int) + 1) = ((i + 1 : Nat) : Int) := by rw [w64_id ⟨by omega, by omega⟩]; omega
      have s1 : sub w 0 (i : Int) = some (w.take i) := by
        unfold sub
        rw [if_pos (by omega)]
        simp
      have s2 : sub w (i : Int) (w.length : Int) = some (w.drop i) := by
        unfold sub
        rw [if_pos (by omega)]
        simp only [Int.toNat_natCast]
        rw [List.take_of_length_le (by simp)]
      obtain ⟨o1, g1, g2⟩ := f16_eq m hm p (w.take i)
      obtain ⟨o2, g3, g4⟩ := f16_eq m hm q (w.drop i)
      rcases g2 with ⟨_, _, rfl⟩ | ⟨g2, _⟩
      case inr => exact absurd ⟨hp, hw.take i⟩ g2
      rcases g4 with ⟨_, _, rfl⟩ | ⟨g4, _⟩
      case inr => exact absurd ⟨hq, hw.drop i⟩ g4
      have hB : f7_B3 m p q w b (i : Int) = some (.nxt ((b || (lang 70 p (w.take i) && lang 70 q (w.drop i))), ((i + 1 : Nat) : Int))) := by
        unfold f7_B3
        rw [decide_eq_true (by omega : (i : Int) ≤ (w.length : Int)), cnd_true, s1, bnd_some', g1, bnd_some', s2, bnd_some', g3, bnd_some']
        unfold f7_r2 f7_r1
        rw [zero27, decide_eq_true rfl, Bool.not_true, Bool.or_false, cnd_false, hwi]
      rw [hB]
      show iter (fun (y : Bool × Int) => f7_B3 m p q w y.1 y.2) M ((b || (lang 70 p (w.take i) && lang 70 q (w.drop i))), ((i + 1 : Nat) : Int)) = _
      refine f7_loop m hm p q w hp hq hw M (i + 1) _ (by omega) (by omega) ?_
      rw [List.range_succ, List.any_append, hb]
      simp
    · have : i = w.length + 1 := by omega
      subst this
      have hB : f7_B3 m p q w b ((w.length + 1 : Nat) : Int) = some (.brk (b, ((w.length + 1 : Nat) : Int))) := by
        unfold f7_B3
        rw [decide_eq_false (by omega), cnd_false]
      rw [hB, hb]
      rfl
theorem plain7 (m : Nat) (hm : 1000 ≤ m) (p q : S24) (w : List Int) : f7 m p q w = some true := by
  obtain ⟨o2, a2, b2⟩ := f16_eq m hm p w
  obtain ⟨o3, a3, b3⟩ := f16_eq m hm q w
  obtain ⟨o5, a5, b5⟩ := f16_eq m hm (twoP 4 p q) w
  obtain ⟨o7, a7, b7⟩ := f16_eq m hm (twoP 6 p q) w
  obtain ⟨o9, a9, b9⟩ := f16_eq m hm (twoP 7 p q) w
  obtain ⟨o11, a11, b11⟩ := f16_eq m hm (twoP 3 p q) w
  have e : f7 m p q w = f7_r12 m p q w o2 o3 o5 o7 o9 o11 ((!((o2.2.fCode == 0) && ((o2.2.fIndex == 0) && true))) || (!((o3.2.fCode == 0) && ((o3.2.fIndex == 0) && true)))) := by
    unfold f7
    have t4 : f20 m 4 p q = some (twoP 4 p q) := rfl
    have t6 : f20 m 6 p q = some (twoP 6 p q) := rfl
    have t7 : f20 m 7 p q = some (twoP 7 p q) := rfl
    have t3 : f20 m 3 p q = some (twoP 3 p q) := rfl
    rw [show f8 m = some true from rfl, bnd_some', Bool.not_true, cnd_false, a2, bnd_some', a3, bnd_some', t4, bnd_some', a5, bnd_some', t6, bnd_some', a7, bnd_some', t7, bnd_some', a9, bnd_some', t3, bnd_some', a11, bnd_some']
  rw [e]
  unfold f7_r12 f7_r11 f7_r10 f7_r9 f7_r8
  simp only [zero27]
  generalize hc : ((((((!decide (o2.2 = (⟨0, 0⟩ : S27))) || (!decide (o3.2 = (⟨0, 0⟩ : S27)))) || (!decide (o5.2 = (⟨0, 0⟩ : S27)))) || (!decide (o7.2 = (⟨0, 0⟩ : S27)))) || (!decide (o9.2 = (⟨0, 0⟩ : S27)))) || (!decide (o11.2 = (⟨0, 0⟩ : S27)))) = c
  cases c with
  | true => rw [cnd_true]
  | false =>
    rw [cnd_false]
    simp only [Bool.or_eq_false_iff, Bool.not_eq_false', decide_eq_true_eq] at hc
    obtain ⟨⟨⟨⟨⟨c2, c3⟩, c5⟩, c7⟩, c9⟩, c11⟩ := hc
    rcases b2 with ⟨vp, hw, rfl⟩ | ⟨_, h⟩
    case inr => exact absurd c2 h
    rcases b3 with ⟨vq, _, rfl⟩ | ⟨_, h⟩
    case inr => exact absurd c3 h
    rcases b5 with ⟨_, _, rfl⟩ | ⟨_, h⟩
    case inr => exact absurd c5 h
    rcases b7 with ⟨_, _, rfl⟩ | ⟨_, h⟩
    case inr => exact absurd c7 h
    rcases b9 with ⟨_, _, rfl⟩ | ⟨_, h⟩
    case inr => exact absurd c9 h
    rcases b11 with ⟨_, _, rfl⟩ | ⟨_, h⟩
    case inr => exact absurd c11 h
    have hp : OkM 69 p := OkM_le (vp.okM hm) 29
    have hq : OkM 69 q := OkM_le (vq.okM hm) 29
    have hwl := hw.1
    have hlp := f7_loop m hm p q w vp vq hw m 0 false (by omega) (by omega) rfl
    have hlp : iter (fun (y : Bool × Int) => f7_B3 m p q w y.1 y.2) m (false, 0) = _ := hlp
    rw [hlp]
    show f7_r7 m _ _ _ _ _ _ _ _ = _
    unfold f7_r7 f7_r6 f7_r5 f7_r4
    dsimp only
    rw [lang_two4 hp hq, lang_two6 hp hq, lang_two7 hp hq, lang_two3 hp hq]
    cases lang 70 p w <;> cases lang 70 q w <;> simp
end Go.Abs
