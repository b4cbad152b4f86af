/-
  PATTERNS, the plain laws: what is printed of a pattern is parsed as it was.
-/
import Derived.Test.YtipdmkcbneglpaaDoorPK
namespace Go.Abs
open Go.Sort Go.Proofs
set_option linter.unusedVariables false
set_option maxRecDepth 100000

theorem low_scalar {x : Nat} (h : x < 128) : ScalarN x := ⟨by omega, by omega⟩
theorem signs_scalar {p : Nat} (h : ScalarN p) : ∀ x ∈ signs p, ScalarN x := by
  unfold signs
  intro x hx
  split at hx
  · simp only [List.mem_cons, List.not_mem_nil, or_false] at hx
    rcases hx with rfl | rfl
    · exact low_scalar (by omega)
    · exact h
  · rw [List.mem_singleton.1 hx]; exact h
theorem repT_scalar {a b : Int} (ha : 0 ≤ a ∧ a ≤ 9) (hb : -1 ≤ b ∧ b ≤ 9) : ∀ x ∈ repT a b, ScalarN x := by
  intro x hx
  refine low_scalar ?_
  unfold repT at hx
  repeat' split at hx
  all_goals simp only [List.mem_append, List.mem_cons, List.not_mem_nil, or_false] at hx
  all_goals omega
theorem wrap_scalar {k least : Int} {t : List Nat} (h : ∀ x ∈ t, ScalarN x) : ∀ x ∈ wrapT k least t, ScalarN x := by
  intro x hx
  unfold wrapT at hx
  split at hx
  · simp only [List.mem_cons, List.mem_append, List.not_mem_nil, or_false] at hx
    rcases hx with rfl | hx | rfl
    · exact low_scalar (by omega)
    · exact h x hx
    · exact low_scalar (by omega)
  · exact h x hx
theorem sepT_mem : ∀ {l : List (List Nat)} {x : Nat}, x ∈ sepT l → x = 124 ∨ ∃ t ∈ l, x ∈ t
  | [], x, h => by cases h
  | y :: r, x, h => by
    simp only [sepT, List.mem_append, List.mem_flatMap, List.mem_cons] at h
    rcases h with h | ⟨t, ht, rfl | h⟩
    · exact .inr ⟨y, List.mem_cons_self, h⟩
    · exact .inl rfl
    · exact .inr ⟨t, List.mem_cons_of_mem _ ht, h⟩
theorem txt_scalar : ∀ (r : Nat) (p : S24) (n : Nat), Gd r p n → ∀ x ∈ txt r p, ScalarN x
  | 0, _, _, h => h.elim
  | r + 1, p, n, ⟨⟨⟨l1, l2, l3⟩, hset, hsh⟩, ns, hs, hn⟩ => by
    have ih : ∀ q ∈ p.fSubs, ∀ least, ∀ x ∈ wrapT (P24.vw q).fKind least (txt r (P24.vw q)), ScalarN x := fun q hq least => by
      obtain ⟨k, h1, _⟩ := hs.mem q hq
      exact wrap_scalar (txt_scalar r _ k h1)
    obtain ⟨ls, g1, g2, g3⟩ := lab_nat l2
    have hlab : ∀ x ∈ labT p.fLabels, ScalarN x := by
      intro x hx
      rw [g3] at hx
      obtain ⟨c, hc, hx⟩ := List.mem_flatMap.1 hx
      exact signs_scalar (g2 c hc).1 x hx
    intro x hx
    unfold txt at hx
    split at hx
    · simp only [List.mem_cons, List.not_mem_nil, or_false] at hx
      exact low_scalar (by omega)
    · split at hx
      · split at hx
        · exact hlab x hx
        · simp only [List.mem_cons, List.mem_append, List.not_mem_nil, or_false] at hx
          rcases hx with rfl | hx | rfl
          · exact low_scalar (by omega)
          · exact hlab x hx
          · exact low_scalar (by omega)
      · split at hx
        · obtain ⟨q, hq, hx⟩ := List.mem_flatMap.1 hx
          exact ih q hq 4 x hx
        · split at hx
          · rcases sepT_mem hx with rfl | ⟨t, ht, hx⟩
            · exact low_scalar (by omega)
            · obtain ⟨q, hq, rfl⟩ := List.mem_map.1 ht
              exact ih q hq 2 x hx
          · cases hsub : p.fSubs with
            | nil => rw [hsub] at hx; cases hx
            | cons q s =>
              rw [hsub] at hx ih hsh
              dsimp only at hx
              by_cases k5 : p.fKind = 5
              · rw [if_pos k5, List.mem_append] at hx
                rcases hx with hx | hx
                · exact ih q List.mem_cons_self 4 x hx
                · exact repT_scalar (by omega) (by omega) x hx
              · rw [if_neg k5] at hx
                cases s with
                | nil => cases hx
                | cons q' t =>
                  simp only [List.mem_append, List.mem_cons] at hx
                  rcases hx with hx | hx | hx
                  · exact ih q List.mem_cons_self 2 x hx
                  · split at hx
                    · exact low_scalar (by omega)
                    · exact low_scalar (by omega)
                  · exact ih q' (List.mem_cons_of_mem _ List.mem_cons_self) 3 x hx
/-- from the top -/
theorem top_pp (m : Nat) (hm : 1000 ≤ m) (p : S24) (n : Nat) (hg : Gd 40 p n) (hn : n ≤ 200) : PP (K28 m m).r28 StopE (tight 40 p 1) p 1 := by
  obtain ⟨R, rfl⟩ : ∃ q, m = q + 1 := ⟨m - 1, by omega⟩
  have hs := said (R + 1) hm 40 p n 1 (by omega) hg hn (by omega) (by omega)
  by_cases k4 : p.fKind = 4
  · obtain ⟨hok, ns, hs, hns⟩ := hg
    obtain ⟨⟨l1, l2, l3⟩, hset, hsh⟩ := hok
    have hsum := F2.sum (R := fun q k => Gd 39 (P24.vw q) k) (fun q k h => h.pos) hs
    have ih : ∀ q ∈ p.fSubs, Said (R + 1) 39 (P24.vw q) 1 := fun q hq => by
      obtain ⟨k, g1, g2⟩ := hs.mem q hq
      exact said (R + 1) hm 39 (P24.vw q) k 1 (by omega) g1 (by omega) (by omega) (by omega)
    have hlab : p.fLabels = [] := by
      by_cases e : p.fLabels = []
      · exact e
      · have := hset.2 e; omega
    have hsz : 2 ≤ p.fSubs.length ∧ p.fLeast = 0 ∧ p.fMost = 0 := by omega
    cases hq : p.fSubs with
    | nil => rw [hq] at hsz; simp at hsz
    | cons q qs =>
      have hlen : p.fSubs.length = qs.length + 1 := by rw [hq]; rfl
      have := alt_pp (R + 1) (K28 (R + 1) R) 1 (fun q => tight 39 q.vw 2) q qs (fun x hx => (ih x (by rw [hq]; exact hx)).2.2.2.2.2 R (by omega)) (by omega) (by omega)
      rw [if_neg (by omega), S24.eta k4 hlab hq hsz.2.1 hsz.2.2] at this
      have e : tight 40 p 1 = tight 39 q.vw 2 ++ qs.flatMap fun y => 124 :: tight 39 y.vw 2 := by
        have e1 : tight 40 p 1 = txt 40 p := by unfold tight wrapT levK; rw [if_neg (by omega)]
        rw [e1]
        unfold txt
        rw [if_neg (by omega), if_neg (by omega), if_neg (by omega), if_pos k4, hq]
        simp only [List.map_cons, sepT, tight, List.flatMap_map]
      rw [e]
      exact this
  · have e : tight 40 p 1 = tight 40 p 2 := by
      unfold tight wrapT levK
      repeat' split
      all_goals first | rfl | omega
    rw [e]
    exact lift_alt (K := K28 (R + 1) R) (hs.2.2.2.2.2 R (by omega)) (by omega)
/-! ### a pattern is itself -/
theorem f32_refl (m : Nat) (l : List Int) (hl : l.length ≤ 300) (hm : 1000 ≤ m) : f32 m l l = some true := by
  have h : ∀ (M i : Nat), i ≤ l.length → l.length < M + i → iter (fun (y : Int) => f32_B1 m l l y) M (i : Int) = some (.inr (l.length : Int)) := by
    intro M
    induction M with
    | zero => intro i h1 h2; omega
    | succ M ih =>
      intro i h1 h2
      have hwi : w64 ((i : Int) + 1) = ((i + 1 : Nat) : Int) := by rw [w64_id ⟨by omega, by omega⟩]; omega
      unfold iter f32_B1
      by_cases hlt : i < l.length
      · have e1 : idx l (i : Int) = some l[i] := by simp [idx, List.getElem?_eq_getElem hlt]
        rw [decide_eq_true (by omega : (i : Int) < (l.length : Int)), cnd_true, e1, bnd_some', bnd_some', show (l[i] != l[i]) = false by simp, cnd_false, hwi]
        exact ih (i + 1) hlt (by omega)
      · rw [decide_eq_false (by omega), cnd_false]
        have : i = l.length := by omega
        subst this
        rfl
  unfold f32
  rw [show ((l.length : Int) != (l.length : Int)) = false by simp, cnd_false]
  have := h m 0 (Nat.zero_le _) (by omega)
  have : iter (fun (y : Int) => f32_B1 m l l y) m 0 = some (.inr (l.length : Int)) := this
  rw [this]
  rfl
theorem pat_refl (m : Nat) (hm : 1000 ≤ m) : ∀ (r R : Nat) (p : S24) (n : Nat) (d : Int), r ≤ R → Gd r p n → n ≤ 200 → (r : Int) ≤ d → d ≤ 1000 → (K15 m R).r15 p p d = some true
  | 0, _, _, _, _, _, h, _, _, _ => h.elim
  | r + 1, 0, _, _, _, h, _, _, _, _ => by omega
  | r + 1, R + 1, p, n, d, hR, ⟨⟨⟨l1, l2, l3⟩, hset, hsh⟩, ns, hs, hns⟩, hn, hd, hd2 => by
    have hsum := F2.sum (R := fun q k => Gd r (P24.vw q) k) (fun q k h => h.pos) hs
    have hwd : w64 (d - 1) = d - 1 := w64_id ⟨by omega, by omega⟩
    have h : ∀ (M i : Nat), i ≤ p.fSubs.length → p.fSubs.length < M + i → iter (fun (y : Int) => f15_B1 m (K15 m R) p p d y) M (i : Int) = some (.inr (p.fSubs.length : Int)) := by
      intro M
      induction M with
      | zero => intro i h1 h2; omega
      | succ M ih =>
        intro i h1 h2
        have hwi : w64 ((i : Int) + 1) = ((i + 1 : Nat) : Int) := by rw [w64_id ⟨by omega, by omega⟩]; omega
        unfold iter
        by_cases hlt : i < p.fSubs.length
        · have e1 : idx p.fSubs (i : Int) = some p.fSubs[i] := by simp [idx, List.getElem?_eq_getElem hlt]
          obtain ⟨k, g1, g2⟩ := hs.mem p.fSubs[i] (List.getElem_mem hlt)
          have hrec := pat_refl m hm r R p.fSubs[i].vw k (d - 1) (by omega) g1 (by omega) (by omega) (by omega)
          have hB : f15_B1 m (K15 m R) p p d (i : Int) = some (.nxt ((i + 1 : Nat) : Int)) := by
            unfold f15_B1
            rw [decide_eq_true (by omega : (i : Int) < (p.fSubs.length : Int)), cnd_true, e1, bnd_some', bnd_some', hwd, hrec, bnd_some', hwi]
            rfl
          rw [hB]
          exact ih (i + 1) hlt (by omega)
        · have hB : f15_B1 m (K15 m R) p p d (i : Int) = some (.brk (i : Int)) := by
            unfold f15_B1
            rw [decide_eq_false (by omega), cnd_false]
          rw [hB]
          have : i = p.fSubs.length := by omega
          subst this
          rfl
    have h0 := h m 0 (Nat.zero_le _) (by omega)
    have h0 : iter (fun (y : Int) => f15_B1 m (K15 m R) p p d y) m 0 = some (.inr (p.fSubs.length : Int)) := h0
    show b15 m (K15 m R) p p d = some true
    unfold b15 f15_r6 f15_r5 f15_r4 f15_r3 f15_r2
    have e : ((((d == 0) || (p.fKind != p.fKind)) || (p.fLeast != p.fLeast)) || (p.fMost != p.fMost)) = false := by
      have : (d == 0) = false := beq_eq_false_iff_ne.2 (by omega)
      rw [this]
      simp
    rw [e, cnd_false, f32_refl m p.fLabels l1 hm, bnd_some', bnd_some']
    have e2 : ((!true) || ((p.fSubs.length : Int) != (p.fSubs.length : Int))) = false := by simp
    rw [e2, cnd_false, h0]
    rfl
/-! ### the law -/
theorem plain6 (a0 : S24) : f6 100000 a0 = some true := by
  obtain ⟨s, f, h1, h2⟩ := f10_eq 100000 (by omega) a0
  unfold f6
  rw [show f8 100000 = some true from rfl, bnd_some', Bool.not_true, cnd_false, h1, bnd_some']
  rcases h2 with ⟨rfl, n, hn, hg, hlen, rfl⟩ | h2
  · have e0 : (!(((⟨0, 0⟩ : S27).fCode == 0) && (((⟨0, 0⟩ : S27).fIndex == 0) && true))) = false := rfl
    have e1 : (((⟨0, 0⟩ : S27).fCode == 0) && (((⟨0, 0⟩ : S27).fIndex == 0) && true)) = true := rfl
    have hsc : ∀ x ∈ tight 40 a0 1, ScalarN x := wrap_scalar (txt_scalar 40 a0 n hg)
    have hdec := (f27_eq 100000 (strI (ce (tight 40 a0 1))) (by omega)).1 (tight 40 a0 1) (by rw [strI_size]; exact hlen) (ptsS_encs hsc)
    have hl : (tight 40 a0 1).length ≤ 4000 := by
      have := (encs_len (tight 40 a0 1)).1
      unfold ce at hlen
      rw [castL_len] at hlen
      omega
    have htop := top_pp 100000 (by omega) a0 n hg hn (tight 40 a0 1) 0 [] (fun x hx => by cases hx) ⟨by simp, Nat.zero_le _, hl⟩
    have htop : f28 100000 (⟨castL (tight 40 a0 1), 0⟩ : S58) 1 = some ((a0, true), st (tight 40 a0 1) (0 + (tight 40 a0 1).length)) := htop
    obtain ⟨f9, hv, hv2⟩ := f9_eq 100000 (by omega) a0
    have hf9 : f9 = (⟨0, 0⟩ : S27) := by
      unfold f10 at h1
      rw [hv, bnd_some'] at h1
      rcases hv2 with ⟨h, _⟩ | h
      · exact h
      · exfalso
        have e2 : (!((f9.fCode == 0) && ((f9.fIndex == 0) && true))) = true := by
          have : (f9.fCode == 0) = false := by simpa using h
          rw [this]; rfl
        rw [e2, cnd_true] at h1
        simp only [Option.some.injEq, Prod.mk.injEq] at h1
        rw [h1.2] at h
        exact h rfl
    subst hf9
    have hparse : f13 100000 (strI (ce (tight 40 a0 1))) = some (a0, (⟨0, 0⟩ : S27)) := by
      unfold f13
      rw [hdec, bnd_some']
      dsimp only
      rw [e0, cnd_false, htop, bnd_some']
      unfold f13_r1
      have e3 : ((!true) || (decide ((st (tight 40 a0 1) (0 + (tight 40 a0 1).length)).fAt < ((castL (tight 40 a0 1)).length : Int)))) = false := by
        rw [castL_len]
        have : ¬ ((st (tight 40 a0 1) (0 + (tight 40 a0 1).length)).fAt < ((tight 40 a0 1).length : Int)) := by
          show ¬ (((0 + (tight 40 a0 1).length : Nat) : Int) < _)
          omega
        rw [decide_eq_false this]
        rfl
      dsimp only
      rw [e3, cnd_false, hv, bnd_some', e0, cnd_false]
    rw [e0, cnd_false, hparse, bnd_some', e1, cnd_true]
    have hrefl : f15 100000 a0 a0 100 = some true := pat_refl 100000 (by omega) 40 100000 a0 n 100 (by omega) hg hn (by omega) (by omega)
    rw [hrefl]
    rfl
  · have e0 : (!((f.fCode == 0) && ((f.fIndex == 0) && true))) = true := by
      have : (f.fCode == 0) = false := by simpa using h2
      rw [this]; rfl
    rw [e0, cnd_true]
end Go.Abs
