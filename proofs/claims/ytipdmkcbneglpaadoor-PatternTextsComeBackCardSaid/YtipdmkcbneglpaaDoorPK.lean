/-
  PATTERNS, the plain laws: the text of a pattern is read as it was.
-/
import Derived.Test.YtipdmkcbneglpaaDoorPJ
namespace Go.Abs
open Go.Sort Go.Proofs
set_option linter.unusedVariables false
set_option maxRecDepth 100000

theorem lab_nat : ∀ {l : List Int}, (∀ x ∈ l, okC x) → ∃ ls : List Nat, l = castL ls ∧ (∀ p ∈ ls, ScalarN p ∧ 1 ≤ p) ∧ labT l = ls.flatMap signs
  | [], _ => ⟨[], rfl, fun p h => (by cases h), rfl⟩
  | x :: r, h => by
    obtain ⟨p, h1, h2, h3⟩ := okC_nat (h x List.mem_cons_self)
    obtain ⟨ls, g1, g2, g3⟩ := lab_nat fun y hy => h y (List.mem_cons_of_mem _ hy)
    subst h1 g1
    refine ⟨p :: ls, rfl, fun q hq => ?_, ?_⟩
    · rcases List.mem_cons.1 hq with rfl | hq
      · exact ⟨h2, h3⟩
      · exact g2 q hq
    · simp only [labT, List.flatMap_cons] at g3 ⊢
      rw [g3]
      rfl
theorem F2.mem {R : P24 → Nat → Prop} : ∀ {a : List P24} {b : List Nat}, F2 R a b → ∀ q ∈ a, ∃ k, R q k ∧ k ≤ b.sum
  | [], _, _, q, h => by cases h
  | x :: a, y :: b, h, q, hq => by
    rcases List.mem_cons.1 hq with rfl | hq
    · exact ⟨y, h.1, by rw [List.sum_cons]; omega⟩
    · obtain ⟨k, h1, h2⟩ := F2.mem h.2 q hq
      exact ⟨k, h1, by rw [List.sum_cons]; omega⟩
  | _ :: _, [], h, _, _ => h.elim
theorem first_wrap {k least : Int} {t : List Nat} (h : First t) : First (wrapT k least t) := by
  unfold wrapT
  split
  · exact ⟨40, _, rfl, rfl⟩
  · exact h
theorem first_txt : ∀ (r : Nat) (p : S24) (n : Nat), Gd r p n → First (txt r p)
  | 0, _, _, h => h.elim
  | r + 1, p, n, ⟨⟨⟨l1, l2, l3⟩, hset, hsh⟩, ns, hs, hn⟩ => by
    have ih : ∀ q ∈ p.fSubs, First (txt r (P24.vw q)) := fun q hq => by
      obtain ⟨k, h1, _⟩ := hs.mem q hq
      exact first_txt r _ k h1
    obtain ⟨ls, g1, g2, g3⟩ := lab_nat l2
    unfold txt
    split
    · exact ⟨40, [41], rfl, rfl⟩
    · split
      · rename_i k2
        split
        · rename_i h1
          rw [g3]
          rw [g1, castL_len] at h1
          obtain ⟨c, rfl⟩ := List.length_eq_one_iff.1 h1
          obtain ⟨x, t, hx, _, _, _, hst⟩ := signs_head c
          exact ⟨x, t, by simpa using hx, hst⟩
        · exact ⟨91, _, rfl, rfl⟩
      · have hne : p.fSubs ≠ [] := by
          intro h
          rw [h] at hsh
          simp only [List.length_nil] at hsh
          omega
        cases hsub : p.fSubs with
        | nil => exact absurd hsub hne
        | cons q s =>
          have hq := ih q (by rw [hsub]; exact List.mem_cons_self)
          split
          · rw [List.flatMap_cons]
            exact (first_wrap hq).append _
          · split
            · simp only [List.map_cons, sepT]
              exact (first_wrap hq).append _
            · dsimp only
              by_cases k5 : p.fKind = 5
              · rw [if_pos k5]
                exact (first_wrap hq).append _
              · rw [if_neg k5]
                cases s with
                | nil =>
                  rw [hsub] at hsh
                  simp only [List.length_cons, List.length_nil] at hsh
                  omega
                | cons q' t => exact (first_wrap hq).append _
theorem S24.eta {p : S24} {k a b : Int} {l : List Int} {s : List P24} (h1 : p.fKind = k) (h2 : p.fLabels = l) (h3 : p.fSubs = s) (h4 : p.fLeast = a) (h5 : p.fMost = b) : (⟨k, l, s, a, b⟩ : S24) = p := by
  subst h1 h2 h3 h4 h5
  rfl
/-- all that is said of a pattern at a depth -/
def Said (m r : Nat) (p : S24) (d : Int) : Prop :=
  (∀ R, 5 * r + 1 ≤ R → PP (K28 m R).r74 Any (tight r p 5) p d) ∧ (∀ R, 5 * r + 1 ≤ R → FSp m (K28 m R) (tight r p 4) p d r) ∧ (∀ R, 5 * r + 2 ≤ R → PP (K28 m R).r67 NoOp (tight r p 4) p d) ∧
  (∀ R, 5 * r + 3 ≤ R → PP (K28 m R).r61 StopS (tight r p 3) p d) ∧ (∀ R, 5 * r + 3 ≤ R → BSp m (K28 m R) (tight r p 2) p d r) ∧ (∀ R, 5 * r + 4 ≤ R → PP (K28 m R).r45 StopB (tight r p 2) p d)
theorem FSp.more {m : Nat} {K : Rec28} {T : List Nat} {p : S24} {d : Int} {c c' : Nat} (h : FSp m K T p d c) (hc : c ≤ c') : FSp m K T p d c' := fun l i rest hcut => by
  obtain ⟨a0, i0, k, h1, h2⟩ := h l i rest hcut
  exact ⟨a0, i0, k, by omega, h2⟩
theorem BSp.more {m : Nat} {K : Rec28} {T : List Nat} {p : S24} {d : Int} {c c' : Nat} (h : BSp m K T p d c) (hc : c ≤ c') : BSp m K T p d c' := fun l i rest hs hcut => by
  obtain ⟨a0, i0, k, h1, h2⟩ := h l i rest hs hcut
  exact ⟨a0, i0, k, by omega, h2⟩
theorem rep_sp {m : Nat} {K : Rec28} {T : List Nat} {q : P24} {d : Int} {c : Nat} (a b : Int) (ha : 0 ≤ a ∧ a ≤ 9) (hb : -1 ≤ b ∧ b ≤ 9) (h : FSp m K T q.vw d c) : FSp m K (T ++ repT a b) (⟨5, [], [q], a, b⟩ : S24) d (c + 1) := by
  intro l i rest hc
  rw [List.append_assoc] at hc
  obtain ⟨a0, i0, k, hk, h1, h2⟩ := h l i _ hc
  refine ⟨a0, i0, k + 1, by omega, h1, fun M => ?_⟩
  have e1 := h2 (M + 1)
  have e2 := rep_step m K q.vw a b ha hb hc.app M
  rw [P24.con_vw] at e2
  have e3 : M + 1 + k = M + (k + 1) := by omega
  rw [e3] at e1
  rw [e1, e2, List.length_append, Nat.add_assoc]
theorem both_sp {m : Nat} {K : Rec28} {T T' : List Nat} {q q' : P24} {d : Int} {c : Nat} (six : Bool) (h : BSp m K T q.vw d c) (h' : PP K.r61 StopS T' q'.vw d) : BSp m K (T ++ (if six then 38 else 45) :: T') (⟨if six then 6 else 7, [], [q, q'], 0, 0⟩ : S24) d (c + 1) := by
  intro l i rest hs hc
  have hc : Cut l i (T ++ ((if six then 38 else 45) :: (T' ++ rest))) := by simpa using hc
  obtain ⟨a0, i0, k, hk, h1, h2⟩ := h l i _ (fun x hx => by
    have : (if six then 38 else 45) = x := by simpa using hx
    cases six
    · exact .inr (.inr (.inr this.symm))
    · exact .inr (.inr (.inl this.symm))) hc
  refine ⟨a0, i0, k + 1, by omega, h1, fun M => ?_⟩
  have e1 := h2 (M + 1)
  have e2 := both_step m K d q.vw q'.vw T' six hc.app hs h' M
  rw [P24.con_vw, P24.con_vw] at e2
  have e3 : M + 1 + k = M + (k + 1) := by omega
  rw [e3] at e1
  rw [e1, e2]
  simp only [List.length_append, List.length_cons]
  congr 2
  omega
theorem said (m : Nat) (hm : 1000 ≤ m) : ∀ (r : Nat) (p : S24) (n : Nat) (d : Int), r ≤ 900 → Gd r p n → n ≤ 200 → 0 ≤ d → d + r ≤ 80 → Said m r p d
  | 0, _, _, _, _, h, _, _, _ => h.elim
  | r + 1, p, n, d, hr9, hgd, hn, hd0, hd => by
    have hfirst := first_txt (r + 1) p n hgd
    obtain ⟨hok, ns, hs, hns⟩ := hgd
    obtain ⟨⟨l1, l2, l3⟩, hset, hsh⟩ := hok
    have hsum := F2.sum (R := fun q k => Gd r (P24.vw q) k) (fun q k h => h.pos) hs
    have ih : ∀ q ∈ p.fSubs, ∀ d' : Int, 0 ≤ d' → d' + r ≤ 80 → Said m r (P24.vw q) d' := fun q hq d' h1 h2 => by
      obtain ⟨k, g1, g2⟩ := hs.mem q hq
      exact said m hm r (P24.vw q) k d' (by omega) g1 (by omega) h1 h2
    have ihf : ∀ q ∈ p.fSubs, ∀ least, First (tight r (P24.vw q) least) := fun q hq least => by
      obtain ⟨k, g1, g2⟩ := hs.mem q hq
      exact first_wrap (first_txt r _ k g1)
    have hlab : p.fKind ≠ 2 → p.fLabels = [] := fun h => by
      by_cases e : p.fLabels = []
      · exact e
      · exact absurd (hset.2 e) h
    -- what the kinds are on their own
    have own5 : p.fKind = 5 → ∀ d' : Int, 0 ≤ d' → d' + r ≤ 80 → ∀ R, 5 * r + 1 ≤ R → FSp m (K28 m R) (txt (r + 1) p) p d' (r + 1) := by
      intro k5 d' h1 h2 R hR
      have hsz : p.fSubs.length = 1 ∧ 0 ≤ p.fLeast ∧ p.fLeast ≤ 9 ∧ -1 ≤ p.fMost ∧ p.fMost ≤ 9 := by omega
      obtain ⟨q, hq⟩ := List.length_eq_one_iff.1 hsz.1
      have h := (ih q (by rw [hq]; exact List.mem_cons_self) d' h1 h2).2.1 R hR
      have := rep_sp p.fLeast p.fMost ⟨hsz.2.1, hsz.2.2.1⟩ ⟨hsz.2.2.2.1, hsz.2.2.2.2⟩ h
      rw [S24.eta k5 (hlab (by omega)) hq rfl rfl] at this
      have e : txt (r + 1) p = tight r q.vw 4 ++ repT p.fLeast p.fMost := by
        unfold txt
        rw [if_neg (by omega), if_neg (by omega), if_neg (by omega), if_neg (by omega), hq]
        simp only [k5, if_true, tight]
      rw [e]
      exact this
    have own3 : p.fKind = 3 → ∀ d' : Int, 0 ≤ d' → d' + r ≤ 80 → ∀ R, 5 * r + 3 ≤ R → PP (K28 m R).r61 StopS (txt (r + 1) p) p d' := by
      intro k3 d' h1 h2 R hR
      obtain ⟨R, rfl⟩ : ∃ q, R = q + 1 := ⟨R - 1, by omega⟩
      have := seq_pp m (K28 m R) d' (fun q => tight r q.vw 4) p.fSubs (fun q hq => ⟨(ih q hq d' h1 h2).2.2.1 R (by omega), ihf q hq 4⟩) (by omega) (by omega) (by omega)
      rw [if_neg (by omega), S24.eta k3 (hlab (by omega)) rfl (by omega) (by omega)] at this
      have e : txt (r + 1) p = p.fSubs.flatMap fun q => tight r q.vw 4 := by
        conv => lhs; unfold txt
        rw [if_neg (by omega), if_neg (by omega), if_pos k3]
        rfl
      rw [e]
      exact this
    have own2 : (p.fKind = 6 ∨ p.fKind = 7) → ∀ d' : Int, 0 ≤ d' → d' + r ≤ 80 → ∀ R, 5 * r + 3 ≤ R → BSp m (K28 m R) (txt (r + 1) p) p d' (r + 1) := by
      intro k67 d' h1 h2 R hR
      have hsz : p.fSubs.length = 2 := by omega
      match hq : p.fSubs, hsz with
      | [q, q'], _ =>
        have ha := (ih q (by rw [hq]; exact List.mem_cons_self) d' h1 h2).2.2.2.2.1 R hR
        have hb := (ih q' (by rw [hq]; exact List.mem_cons_of_mem _ List.mem_cons_self) d' h1 h2).2.2.2.1 R hR
        have := both_sp (decide (p.fKind = 6)) ha hb
        have ek : (if decide (p.fKind = 6) = true then (6 : Int) else 7) = p.fKind := by
          by_cases h6 : p.fKind = 6
          · simp [h6]
          · simp [h6]; omega
        rw [ek, S24.eta rfl (hlab (by omega)) hq (by omega) (by omega)] at this
        have e : txt (r + 1) p = tight r q.vw 2 ++ (if decide (p.fKind = 6) = true then 38 else 45) :: tight r q'.vw 3 := by
          unfold txt
          rw [if_neg (by omega), if_neg (by omega), if_neg (by omega), if_neg (by omega), hq]
          have h5 : ¬ p.fKind = 5 := by omega
          simp only [if_neg h5, tight, decide_eq_true_eq]
        rw [e]
        exact this
    have own1 : p.fKind = 4 → ∀ d' : Int, 0 ≤ d' → d' + r ≤ 80 → ∀ R, 5 * r + 5 ≤ R → PP (K28 m R).r28 StopE (txt (r + 1) p) p d' := by
      intro k4 d' h1 h2 R hR
      obtain ⟨R, rfl⟩ : ∃ q, R = q + 1 := ⟨R - 1, by omega⟩
      have hsz : 2 ≤ p.fSubs.length ∧ p.fLeast = 0 ∧ p.fMost = 0 := by omega
      cases hq : p.fSubs with
      | nil => rw [hq] at hsz; simp at hsz
      | cons q qs =>
        have hlen : p.fSubs.length = qs.length + 1 := by rw [hq]; rfl
        have := alt_pp m (K28 m R) d' (fun q => tight r q.vw 2) q qs (fun x hx => (ih x (by rw [hq]; exact hx) d' h1 h2).2.2.2.2.2 R (by omega)) (by omega) (by omega)
        rw [if_neg (by omega), S24.eta k4 (hlab (by omega)) hq hsz.2.1 hsz.2.2] at this
        have e : txt (r + 1) p = tight r q.vw 2 ++ qs.flatMap fun y => 124 :: tight r y.vw 2 := by
          unfold txt
          rw [if_neg (by omega), if_neg (by omega), if_neg (by omega), if_pos k4, hq]
          simp only [List.map_cons, sepT, tight, List.flatMap_map]
        rw [e]
        exact this
    -- within brackets
    have inner : p.fKind ≠ 1 → p.fKind ≠ 2 → ∀ d' : Int, 0 ≤ d' → d' + r ≤ 80 → ∀ R, 5 * r + 5 ≤ R → PP (K28 m R).r28 StopE (txt (r + 1) p) p d' := by
      intro n1 n2 d' h1 h2 R hR
      by_cases k4 : p.fKind = 4
      · exact own1 k4 d' h1 h2 R hR
      obtain ⟨R, rfl⟩ : ∃ q, R = q + 3 := ⟨R - 3, by omega⟩
      refine lift_alt (K := K28 m (R + 2)) ?_ (by omega)
      by_cases k67 : p.fKind = 6 ∨ p.fKind = 7
      · exact (own2 k67 d' h1 h2 (R + 1) (by omega)).pp (by omega)
      · refine (BSp.of (K := K28 m (R + 1)) ?_).pp (by omega)
        by_cases k3 : p.fKind = 3
        · exact own3 k3 d' h1 h2 (R + 1) (by omega)
        · have k5 : p.fKind = 5 := by omega
          refine lift_seq (K := K28 m R) ?_ hfirst (by omega)
          obtain ⟨R, rfl⟩ : ∃ q, R = q + 1 := ⟨R - 1, by omega⟩
          exact (own5 k5 d' h1 h2 R (by omega)).pp (by omega)
    have hA : ∀ R, 5 * (r + 1) + 1 ≤ R → PP (K28 m R).r74 Any (tight (r + 1) p 5) p d := by
      intro R hR
      obtain ⟨R, rfl⟩ : ∃ q, R = q + 1 := ⟨R - 1, by omega⟩
      unfold tight wrapT
      by_cases k1 : p.fKind = 1
      · have hsz : p.fSubs = [] := List.eq_nil_of_length_eq_zero (by omega)
        have e : txt (r + 1) p = [40, 41] := by unfold txt; rw [if_pos k1]
        rw [if_neg (by unfold levK; omega), e, ← S24.eta (a := 0) (b := 0) k1 (hlab (by omega)) hsz (by omega) (by omega)]
        exact atom_empty m (K28 m R) d ⟨hd0, by omega⟩
      by_cases k2 : p.fKind = 2
      · have hsz : p.fSubs = [] := List.eq_nil_of_length_eq_zero (by omega)
        obtain ⟨ls, g1, g2, g3⟩ := lab_nat l2
        rw [if_neg (by unfold levK; omega)]
        by_cases one : p.fLabels.length = 1
        · have e : txt (r + 1) p = labT p.fLabels := by unfold txt; rw [if_neg k1, if_pos k2, if_pos one]
          have hl1 : ls.length = 1 := by rw [g1, castL_len] at one; exact one
          obtain ⟨c, rfl⟩ := List.length_eq_one_iff.1 hl1
          have hc := g2 c List.mem_cons_self
          rw [e, g3, ← S24.eta (a := 0) (b := 0) k2 g1 hsz (by omega) (by omega)]
          have e2 : [c].flatMap signs = signs c := by simp
          rw [e2]
          exact atom_one m (K28 m R) d c hc.2
        · have e : txt (r + 1) p = 91 :: (labT p.fLabels ++ [93]) := by unfold txt; rw [if_neg k1, if_pos k2, if_neg one]
          rw [e, g3, ← S24.eta (a := 0) (b := 0) k2 g1 hsz (by omega) (by omega)]
          exact atom_set m (K28 m R) d ls (fun h => by subst h; exact hset.1 k2 g1) (fun q hq => (g2 q hq).2) (by rw [← g1]; exact l3) (by rw [g1, castL_len] at l1; exact l1) hm
      · rw [if_pos (by unfold levK; omega)]
        exact atom_paren (K := K28 m R) ⟨hd0, by omega⟩ (inner k1 k2 (d + 1) (by omega) (by omega) R (by omega)) hfirst
    have t45 : p.fKind ≠ 5 → tight (r + 1) p 4 = tight (r + 1) p 5 := by
      intro h
      unfold tight wrapT levK
      repeat' split
      all_goals first | rfl | omega
    have t34 : p.fKind ≠ 3 → tight (r + 1) p 3 = tight (r + 1) p 4 := by
      intro h
      unfold tight wrapT levK
      repeat' split
      all_goals first | rfl | omega
    have t23 : ¬ (p.fKind = 6 ∨ p.fKind = 7) → tight (r + 1) p 2 = tight (r + 1) p 3 := by
      intro h
      unfold tight wrapT levK
      repeat' split
      all_goals first | rfl | omega
    have hF : ∀ R, 5 * (r + 1) + 1 ≤ R → FSp m (K28 m R) (tight (r + 1) p 4) p d (r + 1) := by
      intro R hR
      by_cases k5 : p.fKind = 5
      · have e : tight (r + 1) p 4 = txt (r + 1) p := by unfold tight wrapT levK; rw [if_neg (by omega)]
        rw [e]
        exact own5 k5 d hd0 (by omega) R (by omega)
      · rw [t45 k5]
        exact (FSp.of (hA R hR)).more (by omega)
    have hF2 : ∀ R, 5 * (r + 1) + 2 ≤ R → PP (K28 m R).r67 NoOp (tight (r + 1) p 4) p d := by
      intro R hR
      obtain ⟨R, rfl⟩ : ∃ q, R = q + 1 := ⟨R - 1, by omega⟩
      exact (hF R (by omega)).pp (by omega)
    have hS : ∀ R, 5 * (r + 1) + 3 ≤ R → PP (K28 m R).r61 StopS (tight (r + 1) p 3) p d := by
      intro R hR
      by_cases k3 : p.fKind = 3
      · have e : tight (r + 1) p 3 = txt (r + 1) p := by unfold tight wrapT levK; rw [if_neg (by omega)]
        rw [e]
        exact own3 k3 d hd0 (by omega) R (by omega)
      · obtain ⟨R, rfl⟩ : ∃ q, R = q + 1 := ⟨R - 1, by omega⟩
        rw [t34 k3]
        exact lift_seq (K := K28 m R) (hF2 R (by omega)) (first_wrap hfirst) (by omega)
    have hB : ∀ R, 5 * (r + 1) + 3 ≤ R → BSp m (K28 m R) (tight (r + 1) p 2) p d (r + 1) := by
      intro R hR
      by_cases k67 : p.fKind = 6 ∨ p.fKind = 7
      · have e : tight (r + 1) p 2 = txt (r + 1) p := by unfold tight wrapT levK; rw [if_neg (by omega)]
        rw [e]
        exact own2 k67 d hd0 (by omega) R (by omega)
      · rw [t23 k67]
        exact (BSp.of (hS R hR)).more (by omega)
    refine ⟨hA, hF, hF2, hS, hB, fun R hR => ?_⟩
    obtain ⟨R, rfl⟩ : ∃ q, R = q + 1 := ⟨R - 1, by omega⟩
    exact (hB R (by omega)).pp (by omega)
end Go.Abs
