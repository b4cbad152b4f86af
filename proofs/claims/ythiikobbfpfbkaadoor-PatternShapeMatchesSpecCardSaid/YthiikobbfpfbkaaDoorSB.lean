/-
  PATTERNS, the plain laws: Validate and the plain check give the same fault.
-/
import Derived.Test.YthiikobbfpfbkaaDoorSA
namespace Go.Abs
open Go.Sort Go.Proofs
set_option linter.unusedVariables false
set_option maxRecDepth 100000

def subsS (F : Nat → P24 → S27 × Nat) : List P24 → Nat → S27 × Nat
  | [], k => (⟨0, 0⟩, k)
  | q :: s, k => if (F k q).1.fCode ≠ 0 then F k q else subsS F s (F k q).2
theorem subsS_cons {F : Nat → P24 → S27 × Nat} (q : P24) (s : List P24) (k : Nat) : subsS F (q :: s) k = if (F k q).1.fCode ≠ 0 then F k q else subsS F s (F k q).2 := rfl
/-- the first fault of a pattern, and how many nodes were looked at -/
noncomputable def valS : Nat → Nat → S24 → S27 × Nat
  | 0, k, _ => (⟨2, (k : Int)⟩, k + 1)
  | r + 1, k, p => if 200 ≤ k then (⟨2, (k : Int)⟩, k + 1) else if nodeE p ≠ 0 then (⟨nodeE p, (k : Int)⟩, k + 1) else subsS (fun k q => valS r k q.vw) p.fSubs (k + 1)
def Fine (k : Nat) (o : S27 × Nat) : Prop := (o.1 = (⟨0, 0⟩ : S27) ∧ k ≤ o.2 ∧ o.2 ≤ 200) ∨ o.1.fCode ≠ 0
theorem subsS_fine {F : Nat → P24 → S27 × Nat} (hF : ∀ k q, k ≤ 200 → Fine (k + 1) (F k q)) : ∀ (l : List P24) (k : Nat), k ≤ 200 → Fine (k + l.length) (subsS F l k)
  | [], k, hk => .inl ⟨rfl, Nat.le_refl _, hk⟩
  | q :: s, k, hk => by
    unfold subsS
    rcases hF k q hk with ⟨h1, h2, h3⟩ | h
    · have h0 : ¬ (F k q).1.fCode ≠ 0 := by rw [h1]; simp
      rw [if_neg h0]
      rcases subsS_fine hF s (F k q).2 h3 with ⟨g1, g2, g3⟩ | g
      · exact .inl ⟨g1, by rw [List.length_cons]; omega, g3⟩
      · exact .inr g
    · rw [if_pos h]
      exact .inr h
theorem valS_fine : ∀ (r k : Nat) (p : S24), k ≤ 200 → Fine (k + 1) (valS r k p)
  | 0, k, p, _ => .inr (by unfold valS; simp)
  | r + 1, k, p, hk => by
    unfold valS
    split
    · exact .inr (by simp)
    · split
      · rename_i h
        exact .inr h
      · rcases subsS_fine (F := fun k q => valS r k q.vw) (fun k q h => valS_fine r k q.vw h) p.fSubs (k + 1) (by omega) with ⟨h1, h2, h3⟩ | h
        · exact .inl ⟨h1, by omega, h3⟩
        · exact .inr h
theorem subsS_app {F : Nat → P24 → S27 × Nat} : ∀ (a b : List P24) (k : Nat), subsS F (a ++ b) k = if (subsS F a k).1.fCode ≠ 0 then subsS F a k else subsS F b (subsS F a k).2
  | [], b, k => by
    have : ¬ ((subsS F [] k).1.fCode ≠ 0) := by unfold subsS; simp
    rw [if_neg this]; rfl
  | q :: a, b, k => by
    rw [List.cons_append, subsS_cons, subsS_cons]
    by_cases h : (F k q).1.fCode ≠ 0
    · rw [if_pos h, if_pos h, if_pos h]
    · rw [if_neg h, if_neg h]
      exact subsS_app a b _
/-- more than 201 parts are never looked at -/
theorem subsS_take {F : Nat → P24 → S27 × Nat} (hF : ∀ k q, k ≤ 200 → Fine (k + 1) (F k q)) (l : List P24) (k : Nat) (hk : k ≤ 200) : subsS F (l.take 201) k = subsS F l k := by
  rcases Nat.lt_or_ge 201 l.length with h | h
  · have e : subsS F l k = subsS F (l.take 201 ++ l.drop 201) k := by rw [List.take_append_drop]
    rw [e, subsS_app]
    have hl : (l.take 201).length = 201 := by rw [List.length_take]; omega
    rcases subsS_fine hF (l.take 201) k hk with ⟨_, h2, h3⟩ | h1
    · omega
    · rw [if_pos h1]
  · rw [List.take_of_length_le h]
/-! ### Validate -/
theorem lab21 (m : Nat) (K : Rec21) (k : Nat) (hk : k < 1000) (p : S24) (hl : p.fLabels.length ≤ 300) (hm : 1000 ≤ m) : iter (fun (y : Int) => f21_B2 m K (⟨(k : Int)⟩ : S45) p y) m 0 =
    some (if labE none p.fLabels = 0 then .inr (p.fLabels.length : Int) else .inl ((⟨labE none p.fLabels, (k : Int)⟩ : S27), (⟨((k + 1 : Nat) : Int)⟩ : S45))) := by
  have hwk : w64 ((k : Int) + 1) = ((k + 1 : Nat) : Int) := by rw [w64_id ⟨by omega, by omega⟩]; omega
  refine lab_gen p.fLabels _ (fun c => ((⟨c, (k : Int)⟩ : S27), (⟨((k + 1 : Nat) : Int)⟩ : S45))) (fun i x hx => ?_) ?_ m 0 (Nat.zero_le _) (by omega)
  · have hlt : i < p.fLabels.length := (List.getElem?_eq_some_iff.1 hx).1
    have e1 : idx p.fLabels (i : Int) = some x := by simp [idx, hx]
    have hwi : w64 ((i : Int) + 1) = ((i + 1 : Nat) : Int) := by rw [w64_id ⟨by omega, by omega⟩]; omega
    unfold f21_B2
    rw [decide_eq_true (by omega : (i : Int) < (p.fLabels.length : Int)), cnd_true, e1, bnd_some', f37_dec, bnd_some']
    dsimp only
    rw [hwk]
    by_cases h3 : okC x
    · rw [decide_eq_true h3, if_pos h3, Bool.not_true, cnd_false]
      cases i with
      | zero =>
        rw [decide_eq_false (by omega : ¬ (((0 : Nat) : Int) > 0)), cnd_false, bnd_some']
        unfold f21_r1
        rw [cnd_false, hwi]
        rfl
      | succ j =>
        have e0 : w64 (((j + 1 : Nat) : Int) - 1) = (j : Int) := by rw [w64_id ⟨by omega, by omega⟩]; omega
        have hj : j < p.fLabels.length := by omega
        have e2 : idx p.fLabels (j : Int) = some p.fLabels[j] := by simp [idx, List.getElem?_eq_getElem hj]
        have e3 : lastAt p.fLabels (j + 1) = some p.fLabels[j] := List.getElem?_eq_getElem hj
        rw [decide_eq_true (by omega : (((j + 1 : Nat) : Int) > 0)), cnd_true, e0, e2, bnd_some', bnd_some', e3]
        unfold f21_r1
        show cnd (decide (x ≤ p.fLabels[j])) _ _ = if decide (x ≤ p.fLabels[j]) = true then _ else _
        dsimp only
        rw [hwi, hwk]
        cases decide (x ≤ p.fLabels[j]) <;> rfl
    · rw [decide_eq_false h3, if_neg h3]
      rfl
  · unfold f21_B2
    rw [decide_eq_false (by omega), cnd_false]
def out (o : S27 × Nat) : S27 × S45 := (o.1, (⟨(o.2 : Int)⟩ : S45))
theorem subs21 (m : Nat) (K : Rec21) (F : Nat → P24 → S27 × Nat) (hF : ∀ k q, k ≤ 200 → Fine (k + 1) (F k q)) (p : S24) (d : Int) (hd : 0 ≤ d ∧ d ≤ 40)
    (hK : ∀ (q : P24) (k : Nat), k ≤ 200 → K.r21 (⟨(k : Int)⟩ : S45) q.vw (d + 1) = some (out (F k q))) : ∀ (M i k : Nat), i ≤ p.fSubs.length → i ≤ k → k ≤ 200 → 201 - k < M →
    ∃ z : Int × Int, iter (fun (y : Int × Int) => f21_B3 m K p d y.1 y.2) M ((i : Int), (k : Int)) = some (if (subsS F (p.fSubs.drop i) k).1.fCode ≠ 0 then .inl (out (subsS F (p.fSubs.drop i) k)) else .inr z) ∧ z.2 = ((subsS F (p.fSubs.drop i) k).2 : Int)
  | 0, i, k, _, _, _, h => by omega
  | M + 1, i, k, h1, hik, h2, h3 => by
    have hwd : w64 (d + 1) = d + 1 := w64_id ⟨by omega, by omega⟩
    have hwi : w64 ((i : Int) + 1) = ((i + 1 : Nat) : Int) := by rw [w64_id ⟨by omega, by omega⟩]; omega
    unfold iter
    dsimp only
    rcases Nat.lt_or_ge i p.fSubs.length with hlt | hge
    · have hx := List.getElem?_eq_getElem hlt
      have e1 : idx p.fSubs (i : Int) = some p.fSubs[i] := by simp [idx, hx]
      have hB : f21_B3 m K p d (i : Int) (k : Int) = if (F k p.fSubs[i]).1.fCode ≠ 0 then some (.ret (out (F k p.fSubs[i]))) else some (.nxt (((i + 1 : Nat) : Int), ((F k p.fSubs[i]).2 : Int))) := by
        unfold f21_B3
        rw [hwd, decide_eq_true (by omega : (i : Int) < (p.fSubs.length : Int)), cnd_true, e1, bnd_some', hK _ k h2, bnd_some', hwi]
        rcases hF k p.fSubs[i] h2 with ⟨g1, g2, g3⟩ | g
        · have h0 : ¬ (F k p.fSubs[i]).1.fCode ≠ 0 := by rw [g1]; simp
          have : (!(((out (F k p.fSubs[i])).1.fCode == 0) && (((out (F k p.fSubs[i])).1.fIndex == 0) && true))) = false := by
            show (!(((F k p.fSubs[i]).1.fCode == 0) && (((F k p.fSubs[i]).1.fIndex == 0) && true))) = false
            rw [g1]; rfl
          rw [this, cnd_false, if_neg h0]
          rfl
        · have : (!(((out (F k p.fSubs[i])).1.fCode == 0) && (((out (F k p.fSubs[i])).1.fIndex == 0) && true))) = true := by
            have : ((out (F k p.fSubs[i])).1.fCode == 0) = false := by simpa [out] using g
            rw [this]; rfl
          rw [this, cnd_true, if_pos g]
      rw [hB, List.drop_eq_getElem_cons hlt]
      unfold subsS
      rcases hF k p.fSubs[i] h2 with ⟨g1, g2, g3⟩ | g
      · have h0 : ¬ (F k p.fSubs[i]).1.fCode ≠ 0 := by rw [g1]; simp
        rw [if_neg h0, if_neg h0]
        exact subs21 m K F hF p d hd hK M (i + 1) _ hlt (by omega) g3 (by omega)
      · rw [if_pos g, if_pos g]
        refine ⟨((i : Int), ((F k p.fSubs[i]).2 : Int)), ?_, rfl⟩
        rw [if_pos g]
    · have : i = p.fSubs.length := by omega
      subst this
      have hB : f21_B3 m K p d (p.fSubs.length : Int) (k : Int) = some (.brk ((p.fSubs.length : Int), (k : Int))) := by
        unfold f21_B3
        rw [decide_eq_false (by omega), cnd_false]
      rw [hB, List.drop_length]
      have h0 : ¬ ((subsS F [] k).1.fCode ≠ 0) := by unfold subsS; simp
      refine ⟨((p.fSubs.length : Int), (k : Int)), ?_, rfl⟩
      rw [if_neg h0]
theorem chkX (m : Nat) (hm : 1000 ≤ m) : ∀ (r R : Nat) (d : Int) (k : Nat) (p : S24), r < R → d + r = 41 → 0 ≤ d → k ≤ 200 → (K21 m R).r21 (⟨(k : Int)⟩ : S45) p d = some (out (valS r k p))
  | r, 0, d, k, p, h, _, _, _ => by omega
  | 0, R + 1, d, k, p, h1, h2, h3, h4 => by
    have hwk : w64 ((k : Int) + 1) = ((k + 1 : Nat) : Int) := by rw [w64_id ⟨by omega, by omega⟩]; omega
    show b21 m (K21 m R) (⟨(k : Int)⟩ : S45) p d = _
    unfold b21 f21_r19
    have : decide (d > 40) = true := decide_eq_true (by omega)
    rw [this, Bool.or_true, cnd_true]
    show some ((⟨2, (k : Int)⟩ : S27), (⟨w64 ((k : Int) + 1)⟩ : S45)) = _
    rw [hwk]
    rfl
  | r + 1, R + 1, d, k, p, h1, h2, h3, h4 => by
    have hwk : w64 ((k : Int) + 1) = ((k + 1 : Nat) : Int) := by rw [w64_id ⟨by omega, by omega⟩]; omega
    show b21 m (K21 m R) (⟨(k : Int)⟩ : S45) p d = _
    unfold b21 valS
    have flt : ∀ c : Int, (bnd (f23 m c (⟨(k : Int)⟩ : S45).fNodes) fun v => some ((v, (⟨w64 ((⟨(k : Int)⟩ : S45).fNodes + 1)⟩ : S45)))) = some (out ((⟨c, (k : Int)⟩ : S27), k + 1)) := by
      intro c
      show some ((⟨c, (k : Int)⟩ : S27), (⟨w64 ((k : Int) + 1)⟩ : S45)) = _
      rw [hwk]
      rfl
    by_cases hk : 200 ≤ k
    · have : decide (w64 ((⟨(k : Int)⟩ : S45).fNodes + 1) > 200) = true := decide_eq_true (by show w64 ((k : Int) + 1) > 200; rw [hwk]; omega)
      rw [this, Bool.true_or, if_pos hk]
      unfold f21_r19
      rw [cnd_true]
      exact flt 2
    rw [if_neg hk]
    have e1 : decide (w64 ((⟨(k : Int)⟩ : S45).fNodes + 1) > 200) = false := decide_eq_false (by show ¬ w64 ((k : Int) + 1) > 200; rw [hwk]; omega)
    have e2 : decide (d > 40) = false := decide_eq_false (by omega)
    rw [e1, e2, Bool.or_false]
    have subs : f21_j4 m (K21 m R) (⟨(k : Int)⟩ : S45) p d = some (out (subsS (fun k q => valS r k q.vw) p.fSubs (k + 1))) := by
      unfold f21_j4
      show brk (iter _ m (0, w64 ((k : Int) + 1))) _ _ = _
      rw [hwk]
      obtain ⟨z, q1, q2⟩ := subs21 m (K21 m R) (fun k q => valS r k q.vw) (fun k q h => valS_fine r k q.vw h) p d ⟨h3, by omega⟩ (fun q k' hk' => chkX m hm r R (d + 1) k' q.vw (by omega) (by omega) (by omega) hk') m 0 (k + 1) (Nat.zero_le _) (Nat.zero_le _) (by omega) (by omega)
      have q1 : iter (fun (y : Int × Int) => f21_B3 m (K21 m R) p d y.1 y.2) m (0, ((k + 1 : Nat) : Int)) = _ := q1
      rw [q1]
      rw [List.drop_zero] at q2 ⊢
      have hf := subsS_fine (F := fun k q => valS r k q.vw) (fun k q h => valS_fine r k q.vw h) p.fSubs (k + 1) (by omega)
      generalize subsS (fun k q => valS r k q.vw) p.fSubs (k + 1) = o at *
      rcases hf with ⟨g1, g2, g3⟩ | g
      · have h0 : ¬ (o.1.fCode ≠ 0) := by rw [g1]; simp
        rw [if_neg h0]
        show some ((⟨0, 0⟩ : S27), (⟨z.2⟩ : S45)) = _
        rw [q2]
        unfold out
        rw [g1]
      · rw [if_pos g]
        rfl
    have counts : ∀ (c : Int) (b : Bool), ¬ (p.fKind < 1 ∨ 7 < p.fKind) → ((p.fSubs.length : Int) = c ↔ SubsOk p) →
        f21_j12 m (K21 m R) (⟨(k : Int)⟩ : S45) p d c b = some (out (if nodeE p ≠ 0 then (⟨nodeE p, (k : Int)⟩, k + 1) else subsS (fun k q => valS r k q.vw) p.fSubs (k + 1))) := by
      intro c b hkd hc
      unfold f21_j12 f21_r11
      have hne : nodeE p = if ¬ (SubsOk p ∧ LabsOk p) then 9 else if labE none p.fLabels ≠ 0 then labE none p.fLabels else repE p := by
        unfold nodeE; rw [if_neg hkd]
      by_cases hs : SubsOk p ∧ LabsOk p
      · have hb : (((((p.fSubs.length : Int) != c) || (!((p.fKind == 2) == (decide ((p.fLabels.length : Int) > 0))))) || decide ((p.fLabels.length : Int) > 300))) = false := by
          have c1 := hc.2 hs.1
          obtain ⟨g1, g2⟩ := hs.2
          have c2 : ((p.fKind == 2) == (decide ((p.fLabels.length : Int) > 0))) = true := by
            rcases g1 with ⟨g1, g3⟩ | ⟨g1, g3⟩
            · rw [show (p.fKind == 2) = true by simpa using g1, decide_eq_true (by omega : (p.fLabels.length : Int) > 0)]; rfl
            · rw [show (p.fKind == 2) = false by simpa using g1, decide_eq_false (by omega : ¬ (p.fLabels.length : Int) > 0)]; rfl
          rw [c2, decide_eq_false (by omega : ¬ (p.fLabels.length : Int) > 300), show ((p.fSubs.length : Int) != c) = false by simpa using c1]
          rfl
        rw [hb]
        rw [if_neg (by simpa using hs)] at hne
        unfold f21_r10
        rw [cnd_false, lab21 m (K21 m R) k (by omega) p hs.2.2 hm]
        by_cases h0 : labE none p.fLabels = 0
        · rw [if_neg (by simpa using h0)] at hne
          rw [if_pos h0, brk_inr, hne]
          unfold repE
          by_cases h5 : p.fKind = 5
          · have e5 : (p.fKind == 5) = true := by simpa using h5
            rw [e5, cnd_true, if_pos h5]
            unfold f21_r8 f21_r7 f21_r6 f21_r5
            by_cases hr : p.fLeast < 0 ∨ p.fLeast > 9 ∨ p.fMost < -1 ∨ p.fMost > 9
            · have : (((decide (p.fLeast < 0) || decide (p.fLeast > 9)) || decide (p.fMost < -1)) || decide (p.fMost > 9)) = true := by
                simp only [Bool.or_eq_true, decide_eq_true_eq]; omega
              rw [this, cnd_true, if_pos hr]
              exact flt 3
            · have : (((decide (p.fLeast < 0) || decide (p.fLeast > 9)) || decide (p.fMost < -1)) || decide (p.fMost > 9)) = false := by
                simp only [Bool.or_eq_false_iff, decide_eq_false_iff_not]; omega
              rw [this, cnd_false, if_neg hr]
              by_cases ho : 0 ≤ p.fMost ∧ p.fMost < p.fLeast
              · have : (decide (p.fMost ≥ 0) && decide (p.fMost < p.fLeast)) = true := by simp only [Bool.and_eq_true, decide_eq_true_eq]; omega
                rw [this, cnd_true, if_pos ho]
                exact flt 13
              · have : (decide (p.fMost ≥ 0) && decide (p.fMost < p.fLeast)) = false := by
                  rw [Bool.and_eq_false_iff, decide_eq_false_iff_not, decide_eq_false_iff_not]; omega
                rw [this, cnd_false, if_neg ho]
                exact subs
          · have e5 : (p.fKind == 5) = false := by simpa using h5
            rw [e5, cnd_false, if_neg h5]
            unfold f21_r9
            by_cases hz : p.fLeast ≠ 0 ∨ p.fMost ≠ 0
            · have : ((p.fLeast != 0) || (p.fMost != 0)) = true := by
                simp only [Bool.or_eq_true, bne_iff_ne, ne_eq]; omega
              rw [this, cnd_true, if_pos hz]
              exact flt 5
            · have : ((p.fLeast != 0) || (p.fMost != 0)) = false := by
                simp only [Bool.or_eq_false_iff, bne_eq_false_iff_eq]; omega
              rw [this, cnd_false, if_neg hz]
              exact subs
        · rw [if_pos (by simpa using h0)] at hne
          rw [if_neg h0, hne, if_pos h0]
          rfl
      · have hb : (((((p.fSubs.length : Int) != c) || (!((p.fKind == 2) == (decide ((p.fLabels.length : Int) > 0))))) || decide ((p.fLabels.length : Int) > 300))) = true := by
          by_cases g1 : SubsOk p
          · have g2 : ¬ LabsOk p := fun h => hs ⟨g1, h⟩
            unfold LabsOk at g2
            by_cases g3 : p.fLabels.length ≤ 300
            · have c2 : ((p.fKind == 2) == (decide ((p.fLabels.length : Int) > 0))) = false := by
                by_cases g4 : p.fKind = 2
                · rw [show (p.fKind == 2) = true by simpa using g4, decide_eq_false (by omega : ¬ (p.fLabels.length : Int) > 0)]; rfl
                · rw [show (p.fKind == 2) = false by simpa using g4, decide_eq_true (by omega : (p.fLabels.length : Int) > 0)]; rfl
              rw [c2]
              simp
            · rw [decide_eq_true (by omega : (p.fLabels.length : Int) > 300)]
              simp
          · rw [show ((p.fSubs.length : Int) != c) = true by simpa using fun h => g1 (hc.1 h)]
            rfl
        rw [hb]
        rw [if_pos hs] at hne
        rw [hne]
        unfold f21_r10
        rw [cnd_true]
        exact flt 9
    have kb : ∀ z : Int, p.fKind = z → ((p.fKind == z) = true) := fun z h => by simpa using h
    have nk : ∀ z : Int, p.fKind ≠ z → ((p.fKind == z) = false) := fun z h => by simpa using h
    unfold f21_r19
    rw [cnd_false]
    by_cases k1 : p.fKind = 1
    · rw [kb 1 k1, cnd_true]
      exact counts 0 true (by omega) (by unfold SubsOk; omega)
    rw [nk 1 k1, cnd_false]
    by_cases k2 : p.fKind = 2
    · rw [kb 2 k2]
      exact counts 0 true (by omega) (by unfold SubsOk; omega)
    rw [nk 2 k2]
    unfold f21_j18
    rw [cnd_false]
    have two : (p.fKind = 3 ∨ p.fKind = 4) → f21_j14 m (K21 m R) (⟨(k : Int)⟩ : S45) p d false (if (p.fSubs.length : Int) > 2 then (p.fSubs.length : Int) else 2) = _ := fun h34 =>
      counts _ false (by omega) (by unfold SubsOk; split <;> omega)
    by_cases k3 : p.fKind = 3
    · rw [kb 3 k3, cnd_true]
      exact two (.inl k3)
    rw [nk 3 k3, cnd_false]
    by_cases k4 : p.fKind = 4
    · rw [kb 4 k4]
      exact two (.inr k4)
    rw [nk 4 k4]
    unfold f21_j17
    rw [cnd_false]
    by_cases k5 : p.fKind = 5
    · rw [kb 5 k5, cnd_true]
      exact counts 1 false (by omega) (by unfold SubsOk; omega)
    rw [nk 5 k5, cnd_false]
    by_cases k6 : p.fKind = 6
    · rw [kb 6 k6, cnd_true]
      exact counts 2 false (by omega) (by unfold SubsOk; omega)
    rw [nk 6 k6, cnd_false]
    by_cases k7 : p.fKind = 7
    · rw [kb 7 k7]
      exact counts 2 false (by omega) (by unfold SubsOk; omega)
    rw [nk 7 k7]
    have : nodeE p = 4 := by unfold nodeE; rw [if_pos (by omega)]
    rw [this, if_pos (by decide)]
    unfold f21_j16
    exact flt 4
theorem f9_val (m : Nat) (hm : 1000 ≤ m) (p : S24) : f9 m p = some (valS 40 0 p).1 := by
  have h1 := chkX m hm 40 m 1 0 p (by omega) (by omega) (by omega) (by omega)
  have h1 : f21 m (⟨0⟩ : S45) p 1 = some (out (valS 40 0 p)) := h1
  unfold f9
  rw [h1]
  rfl
/-! ### the pile -/
noncomputable def mk52 (d : Int) (q : P24) : S52 := ⟨q.vw, d⟩
theorem push12 (m : Nat) (v : S52) (hv : 0 ≤ v.fDepth ∧ v.fDepth ≤ 40) (n : Nat) (hn : n ≤ v.fP.fSubs.length) (hn2 : n ≤ 201) : ∀ (M j : Nat) (ys : List S52), j ≤ n → j < M → ys.length + j ≤ 1000000 →
    ∃ z, iter (fun (y : (List S52) × Int) => f12_B1 m v y.1 y.2) M (ys, (j : Int) - 1) = some (.inr z) ∧ z.1 = ys ++ ((v.fP.fSubs.take j).map (mk52 (v.fDepth + 1))).reverse
  | 0, j, ys, _, h, _ => by omega
  | M + 1, 0, ys, h1, h2, h3 => by
    unfold iter
    dsimp only
    have hB : f12_B1 m v ys (((0 : Nat) : Int) - 1) = some (.brk (ys, ((0 : Nat) : Int) - 1)) := by
      unfold f12_B1
      rw [decide_eq_false (by omega), cnd_false]
    rw [hB]
    exact ⟨_, rfl, by simp⟩
  | M + 1, j + 1, ys, h1, h2, h3 => by
    have hlt : j < v.fP.fSubs.length := by omega
    have hx := List.getElem?_eq_getElem hlt
    have e1 : idx v.fP.fSubs (j : Int) = some v.fP.fSubs[j] := by simp [idx, hx]
    have ej : ((j + 1 : Nat) : Int) - 1 = (j : Int) := by omega
    have hwd : w64 (v.fDepth + 1) = v.fDepth + 1 := w64_id ⟨by omega, by omega⟩
    have hwj : w64 ((j : Int) - 1) = (j : Int) - 1 := w64_id ⟨by omega, by omega⟩
    unfold iter
    dsimp only
    rw [ej]
    have hB : f12_B1 m v ys (j : Int) = some (.nxt (ys ++ [mk52 (v.fDepth + 1) v.fP.fSubs[j]], (j : Int) - 1)) := by
      unfold f12_B1
      rw [decide_eq_true (by omega : (j : Int) ≥ 0), cnd_true, e1, bnd_some', hwd, app_some 80 ys _ (by simp; omega) (by simp; omega), bnd_some', hwj]
      rfl
    rw [hB]
    obtain ⟨z, g1, g2⟩ := push12 m v hv n hn hn2 M j (ys ++ [mk52 (v.fDepth + 1) v.fP.fSubs[j]]) (by omega) (by omega) (by rw [List.length_append]; simp; omega)
    refine ⟨z, g1, ?_⟩
    have ht : v.fP.fSubs.take (j + 1) = v.fP.fSubs.take j ++ [v.fP.fSubs[j]] := by rw [List.take_add_one, hx]; rfl
    rw [g2, ht, List.map_append, List.reverse_append, List.append_assoc]
    rfl
/-- one node is taken from the pile -/
theorem step12 (m : Nat) (hm : 1000 ≤ m) (k : Nat) (hk : k ≤ 200) (d : Int) (hd : 1 ≤ d ∧ d ≤ 41) (p : S24) (rest : List S52) (hr : rest.length ≤ 100000) :
    f12_B4 m (rest ++ [⟨p, d⟩]) (k : Int) = if 200 ≤ k ∨ 40 < d then some (.ret ⟨2, (k : Int)⟩) else if nodeE p ≠ 0 then some (.ret ⟨nodeE p, (k : Int)⟩) else
      some (.nxt (rest ++ ((p.fSubs.take 201).map (mk52 (d + 1))).reverse, ((k + 1 : Nat) : Int))) := by
  have hl : (rest ++ [(⟨p, d⟩ : S52)]).length = rest.length + 1 := by simp
  have hw1 : w64 (((rest ++ [(⟨p, d⟩ : S52)]).length : Int) - 1) = (rest.length : Int) := by rw [hl, w64_id ⟨by omega, by omega⟩]; omega
  have hwk : w64 ((k : Int) + 1) = ((k + 1 : Nat) : Int) := by rw [w64_id ⟨by omega, by omega⟩]; omega
  have e1 : idx (rest ++ [(⟨p, d⟩ : S52)]) (rest.length : Int) = some ⟨p, d⟩ := by simp [idx]
  have e2 : sub (rest ++ [(⟨p, d⟩ : S52)]) 0 (rest.length : Int) = some rest := by
    unfold sub
    rw [if_pos ⟨by omega, by omega, by rw [hl]; omega⟩]
    simp
  unfold f12_B4
  rw [decide_eq_true (by rw [hl]; omega : (((rest ++ [(⟨p, d⟩ : S52)]).length : Int) > 0)), cnd_true, hw1, e1, bnd_some', e2, bnd_some']
  unfold f12_r3
  by_cases h1 : 200 ≤ k ∨ 40 < d
  · have : ((decide ((k : Int) ≥ 200)) || (decide ((⟨p, d⟩ : S52).fDepth > 40))) = true := by
      show ((decide ((k : Int) ≥ 200)) || (decide (d > 40))) = true
      simp only [Bool.or_eq_true, decide_eq_true_eq]; omega
    rw [this, cnd_true, if_pos h1]
    rfl
  · have : ((decide ((k : Int) ≥ 200)) || (decide ((⟨p, d⟩ : S52).fDepth > 40))) = false := by
      show ((decide ((k : Int) ≥ 200)) || (decide (d > 40))) = false
      simp only [Bool.or_eq_false_iff, decide_eq_false_iff_not]; omega
    rw [this, cnd_false, if_neg h1]
    dsimp only
    rw [f26_eq m hm, bnd_some']
    by_cases h2 : nodeE p = 0
    · have : (nodeE p != 0) = false := by simpa using h2
      rw [this, cnd_false, if_neg (by simpa using h2)]
      have fin : ∀ n : Nat, n ≤ p.fSubs.length → n ≤ 201 → f12_j2 m (k : Int) (⟨p, d⟩ : S52) rest (n : Int) = some (.nxt (rest ++ ((p.fSubs.take n).map (mk52 (d + 1))).reverse, ((k + 1 : Nat) : Int))) := by
        intro n hn hn2
        unfold f12_j2
        have hwn : w64 ((n : Int) - 1) = (n : Int) - 1 := w64_id ⟨by omega, by omega⟩
        obtain ⟨z, g1, g2⟩ := push12 m (⟨p, d⟩ : S52) ⟨by show 0 ≤ d; omega, by show d ≤ 40; omega⟩ n hn hn2 m n rest (Nat.le_refl _) (by omega) (by omega)
        rw [hwn, g1, brk_inr, hwk, g2]
      by_cases h3 : 201 < p.fSubs.length
      · rw [decide_eq_true (by omega : (p.fSubs.length : Int) > 201), cnd_true]
        exact fin 201 (by omega) (Nat.le_refl _)
      · rw [decide_eq_false (by omega : ¬ (p.fSubs.length : Int) > 201), cnd_false, fin p.fSubs.length (Nat.le_refl _) (by omega), List.take_length, List.take_of_length_le (by omega)]
    · have : (nodeE p != 0) = true := by simpa using h2
      rw [this, cnd_true, if_pos h2]
      rfl
/-- what the pile makes of its last nodes -/
def Took (m : Nat) (o : S27 × Nat) (M k : Nat) (ys rest : List S52) : Prop :=
  if o.1.fCode ≠ 0 then iter (fun (y : (List S52) × Int) => f12_B4 m y.1 y.2) M (ys, (k : Int)) = some (.inl o.1)
  else ∃ M', M' + o.2 = M + k ∧ iter (fun (y : (List S52) × Int) => f12_B4 m y.1 y.2) M (ys, (k : Int)) = iter (fun (y : (List S52) × Int) => f12_B4 m y.1 y.2) M' (rest, (o.2 : Int))
theorem node12 (m : Nat) (hm : 1000 ≤ m) : ∀ (r : Nat) (M k : Nat) (d : Int) (p : S24) (rest : List S52), d + r = 41 → 1 ≤ d → k ≤ 200 → 202 ≤ M + k → rest.length ≤ 202 * (k + 1) →
    Took m (valS r k p) M k (rest ++ [⟨p, d⟩]) rest
  | r, 0, k, d, p, rest, _, _, hk, hM, _ => by omega
  | 0, M + 1, k, d, p, rest, h1, h2, hk, hM, hl => by
    unfold Took valS
    rw [if_pos (by simp)]
    unfold iter
    dsimp only
    rw [step12 m hm k hk d ⟨h2, by omega⟩ p rest (by omega), if_pos (.inr (by omega))]
  | r + 1, M + 1, k, d, p, rest, h1, h2, hk, hM, hl => by
    have hst := step12 m hm k hk d ⟨h2, by omega⟩ p rest (by omega)
    by_cases hk2 : 200 ≤ k
    · rw [if_pos (.inl hk2)] at hst
      unfold Took valS
      rw [if_pos hk2, if_pos (by simp)]
      unfold iter
      dsimp only
      rw [hst]
    rw [if_neg (by omega)] at hst
    by_cases hn : nodeE p = 0
    · rw [if_neg (by simpa using hn)] at hst
      have hv : valS (r + 1) k p = subsS (fun k q => valS r k q.vw) (p.fSubs.take 201) (k + 1) := by
        rw [subsS_take (fun k q h => valS_fine r k q.vw h) p.fSubs (k + 1) (by omega)]
        show (if 200 ≤ k then _ else if nodeE p ≠ 0 then _ else _) = _
        rw [if_neg hk2, if_neg (by simpa using hn)]
      have hlen : (p.fSubs.take 201).length ≤ 201 := by rw [List.length_take]; omega
      have subs : ∀ (l : List P24) (M k : Nat), k ≤ 200 → 202 ≤ M + k → rest.length + l.length ≤ 202 * (k + 1) → Took m (subsS (fun k q => valS r k q.vw) l k) M k (rest ++ (l.map (mk52 (d + 1))).reverse) rest := by
        intro l
        induction l with
        | nil =>
          intro M k hk hM _
          unfold Took subsS
          rw [if_neg (by simp)]
          exact ⟨M, rfl, by simp⟩
        | cons q l ih =>
          intro M k hk hM hlen
          rw [List.length_cons] at hlen
          have h3 := node12 m hm r M k (d + 1) q.vw (rest ++ (l.map (mk52 (d + 1))).reverse) (by omega) (by omega) hk hM (by simp; omega)
          have e : rest ++ ((q :: l).map (mk52 (d + 1))).reverse = rest ++ (l.map (mk52 (d + 1))).reverse ++ [⟨q.vw, d + 1⟩] := by
            rw [List.map_cons, List.reverse_cons, ← List.append_assoc]; rfl
          rw [e]
          unfold subsS
          have hf := valS_fine r k q.vw hk
          by_cases h0 : (valS r k q.vw).1.fCode ≠ 0
          · rw [if_pos h0]
            unfold Took at h3 ⊢
            rw [if_pos h0] at h3 ⊢
            exact h3
          · rw [if_neg h0]
            unfold Took at h3
            rw [if_neg h0] at h3
            obtain ⟨M', g1, g2⟩ := h3
            rcases hf with ⟨_, f2, f3⟩ | hf
            · have h4 := ih M' (valS r k q.vw).2 f3 (by omega) (by omega)
              unfold Took at h4 ⊢
              rw [g2]
              by_cases h5 : (subsS (fun k q => valS r k q.vw) l (valS r k q.vw).2).1.fCode ≠ 0
              · rw [if_pos h5] at h4 ⊢
                exact h4
              · rw [if_neg h5] at h4 ⊢
                obtain ⟨M2, q1, q2⟩ := h4
                exact ⟨M2, by omega, q2⟩
            · exact (h0 hf).elim
      have h3 := subs (p.fSubs.take 201) M (k + 1) (by omega) (by omega) (by omega)
      rw [hv]
      unfold Took at h3 ⊢
      have hit : iter (fun (y : (List S52) × Int) => f12_B4 m y.1 y.2) (M + 1) (rest ++ [⟨p, d⟩], (k : Int)) = iter (fun (y : (List S52) × Int) => f12_B4 m y.1 y.2) M (rest ++ ((p.fSubs.take 201).map (mk52 (d + 1))).reverse, ((k + 1 : Nat) : Int)) := by
        conv => lhs; unfold iter
        dsimp only
        rw [hst]
      rw [hit]
      by_cases h5 : (subsS (fun k q => valS r k q.vw) (p.fSubs.take 201) (k + 1)).1.fCode ≠ 0
      · rw [if_pos h5] at h3 ⊢
        exact h3
      · rw [if_neg h5] at h3 ⊢
        obtain ⟨M2, q1, q2⟩ := h3
        exact ⟨M2, by omega, q2⟩
    · rw [if_pos hn] at hst
      unfold Took valS
      rw [if_neg hk2, if_pos hn, if_pos hn]
      unfold iter
      dsimp only
      rw [hst]
theorem f12_val (m : Nat) (hm : 1000 ≤ m) (p : S24) : f12 m p = some (valS 40 0 p).1 := by
  have h := node12 m hm 40 m 0 1 p [] (by omega) (by omega) (by omega) (by omega) (by simp)
  have hf := valS_fine 40 0 p (by omega)
  unfold f12
  unfold Took at h
  have e : iter (fun (y : (List S52) × Int) => f12_B4 m y.1 y.2) m ([(⟨p, 1⟩ : S52)], 0) = iter (fun (y : (List S52) × Int) => f12_B4 m y.1 y.2) m ([] ++ [(⟨p, 1⟩ : S52)], ((0 : Nat) : Int)) := rfl
  rw [e]
  by_cases h0 : (valS 40 0 p).1.fCode ≠ 0
  · rw [if_pos h0] at h
    rw [h]
    rfl
  · rw [if_neg h0] at h
    obtain ⟨M', g1, g2⟩ := h
    rcases hf with ⟨f1, f2, f3⟩ | hf
    · rw [g2]
      have hB : f12_B4 m [] ((valS 40 0 p).2 : Int) = some (.brk ([], ((valS 40 0 p).2 : Int))) := by
        unfold f12_B4
        rw [decide_eq_false (by simp), cnd_false]
      obtain ⟨M1, rfl⟩ : ∃ q, M' = q + 1 := ⟨M' - 1, by omega⟩
      unfold iter
      dsimp only
      rw [hB, brk_inr, f1]
    · exact (h0 hf).elim
/-- both checks give the same fault -/
theorem faults_same (m : Nat) (hm : 1000 ≤ m) (p : S24) : f9 m p = f12 m p := by rw [f9_val m hm, f12_val m hm]
end Go.Abs
