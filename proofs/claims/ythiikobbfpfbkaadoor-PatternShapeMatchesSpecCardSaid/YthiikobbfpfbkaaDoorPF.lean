/-
  PATTERNS, the plain laws: Print.
-/
import Derived.Test.YthiikobbfpfbkaaDoorPE
namespace Go.Abs
open Go.Sort Go.Proofs
set_option linter.unusedVariables false
set_option maxRecDepth 100000

theorem lev_pos (k : Int) : 1 ≤ levK k ∧ levK k ≤ 5 := by
  unfold levK
  repeat' split
  all_goals omega
theorem app1 (b : List Int) (x : Int) (h : b.length ≤ 100000000) : app 1 b [x] = some (b ++ [x]) := app_some 1 b [x] (by simp; omega) (by simp; omega)
theorem bk (p : S24) (z : Int) (h : p.fKind = z) : (p.fKind == z) = true := by simpa using h
theorem bn (p : S24) (z : Int) (h : p.fKind ≠ z) : (p.fKind == z) = false := by simpa using h
/-- the operators -/
theorem rep_put (m : Nat) (K : Rec22) (p : S24) (b : List Int) (hb : b.length ≤ 99999000) (h1 : 0 ≤ p.fLeast ∧ p.fLeast ≤ 9) (h2 : -1 ≤ p.fMost ∧ p.fMost ≤ 9) :
    f22_r9 m K p b ((p.fLeast == 0) && (decide (p.fMost < 0))) = some (b ++ ce (repT p.fLeast p.fMost)) := by
  unfold f22_r9 repT
  by_cases q1 : p.fLeast = 0 ∧ p.fMost < 0
  · rw [if_pos q1, show ((p.fLeast == 0) && (decide (p.fMost < 0))) = true by simp [q1.1, q1.2], cnd_true, app1 b 42 (by omega)]
    rfl
  · rw [if_neg q1, show ((p.fLeast == 0) && (decide (p.fMost < 0))) = false by rw [Bool.and_eq_false_iff, beq_eq_false_iff_ne, decide_eq_false_iff_not]; omega, cnd_false]
    unfold f22_r8
    by_cases q2 : p.fLeast = 1 ∧ p.fMost < 0
    · rw [if_pos q2, show ((p.fLeast == 1) && (decide (p.fMost < 0))) = true by simp [q2.1, q2.2], cnd_true, app1 b 43 (by omega)]
      rfl
    · rw [if_neg q2, show ((p.fLeast == 1) && (decide (p.fMost < 0))) = false by rw [Bool.and_eq_false_iff, beq_eq_false_iff_ne, decide_eq_false_iff_not]; omega, cnd_false]
      unfold f22_r7
      by_cases q3 : p.fLeast = 0 ∧ p.fMost = 1
      · rw [if_pos q3, show ((p.fLeast == 0) && (p.fMost == 1)) = true by simp [q3.1, q3.2], cnd_true, app1 b 63 (by omega)]
        rfl
      · rw [if_neg q3, show ((p.fLeast == 0) && (p.fMost == 1)) = false by rw [Bool.and_eq_false_iff, beq_eq_false_iff_ne, beq_eq_false_iff_ne]; omega, cnd_false]
        have c1 := ce_len [48 + p.fLeast.toNat]
        have c2 := ce_len [48 + p.fMost.toNat]
        simp only [List.length_cons, List.length_nil] at c1 c2
        rw [app1 b 123 (by omega), bnd_some', f40_eq m _ _ h1 (by simp; omega), bnd_some', app1 _ 44 (by simp; omega), bnd_some']
        unfold f22_j6
        by_cases q4 : 0 ≤ p.fMost
        · rw [decide_eq_true (by omega : p.fMost ≥ 0), cnd_true, f40_eq m _ _ ⟨q4, h2.2⟩ (by simp; omega), bnd_some', app1 _ 125 (by simp; omega), bnd_some', if_pos q4]
          rw [ce_app, ce_app, ce_low (by omega : (123 : Nat) < 128), ce_low (by omega : 48 + p.fLeast.toNat < 128), ce_low (by omega : 48 + p.fLeast.toNat < 128), ce_low (by omega : (44 : Nat) < 128), ce_low (by omega : (125 : Nat) < 128), ce_nil]
          simp
        · rw [decide_eq_false (by omega : ¬ p.fMost ≥ 0), cnd_false, app1 _ 125 (by simp; omega), bnd_some', if_neg q4]
          rw [ce_app, ce_app, ce_low (by omega : (123 : Nat) < 128), ce_low (by omega : 48 + p.fLeast.toNat < 128), ce_low (by omega : 48 + p.fLeast.toNat < 128), ce_low (by omega : (44 : Nat) < 128), ce_low (by omega : (125 : Nat) < 128), ce_nil]
          simp
theorem body_put (m : Nat) (hm : 50000 ≤ m) (K : Rec22) (r : Nat) (p : S24) (n : Nat) (b : List Int) (least : Int) (hp : Gd (r + 1) p n) (hb : b.length + 3000 * n ≤ 100000500) (hl : ¬ levK p.fKind < least) (hK : ∀ l, PutOk K r l) :
    b22 m K b p least = some (b ++ ce (txt (r + 1) p)) := by
  obtain ⟨hok, ns, hs, hns⟩ := hp
  obtain ⟨⟨l1, l2, l3⟩, hset, hsh⟩ := hok
  have hsum := F2.sum (R := fun q k => Gd r (P24.vw q) k) (fun q k h => h.pos) hs
  have hc1 : labT p.fLabels = labT (p.fLabels.drop 0) := rfl
  have hlt := labT_len p.fLabels
  have hlc := ce_len (labT p.fLabels)
  unfold b22 txt
  rw [f38_eq, bnd_some', decide_eq_false hl, cnd_false]
  by_cases k1 : p.fKind = 1
  · rw [bk p 1 k1, cnd_true, if_pos k1, show bytesI (⟨#[40, 41]⟩ : ByteArray) = ce [40, 41] from rfl, app_some 1 b (ce [40, 41]) (by have := ce_len [40, 41]; simp only [List.length_cons, List.length_nil] at this; omega) (by have := ce_len [40, 41]; simp only [List.length_cons, List.length_nil] at this; omega)]
    rfl
  rw [bn p 1 k1, cnd_false, if_neg k1]
  by_cases k2 : p.fKind = 2
  · rw [bk p 2 k2, cnd_true, if_pos k2]
    by_cases one : p.fLabels.length = 1
    · rw [if_pos one, show ((p.fLabels.length : Int) == 1) = true by simp [one], cnd_true]
      obtain ⟨x, hx⟩ := List.length_eq_one_iff.1 one
      obtain ⟨c, hc1, hc2, hc3⟩ := okC_nat (l2 x (by rw [hx]; exact List.mem_cons_self))
      rw [hx, hc1, show idx [(c : Int)] 0 = some (c : Int) from rfl, bnd_some', f39_eq m b c hc2 (by omega)]
      simp [labT, ce]
    · rw [if_neg one, show ((p.fLabels.length : Int) == 1) = false by simp; omega, cnd_false, app1 b 91 (by omega), bnd_some']
      have := lab_put m K p l1 l2 m 0 (b ++ [91]) (Nat.zero_le _) (by omega) (by simp; omega)
      have : iter (fun (y : (List Int) × Int) => f22_B1 m K p y.1 y.2) m (b ++ [91], 0) = some (.inr ((b ++ [91]) ++ ce (labT p.fLabels), (p.fLabels.length : Int))) := this
      rw [this, brk_inr, app1 _ 93 (by simp; omega), bnd_some', ce_low (by omega : (91 : Nat) < 128), ce_app]
      simp
      rfl
  rw [bn p 2 k2, cnd_false, if_neg k2]
  by_cases k3 : p.fKind = 3
  · rw [bk p 3 k3, cnd_true, if_pos k3]
    have := seq_put m K r p (by omega) (hK 4) m 0 b ns (Nat.zero_le _) (by omega) (by simpa using hs) (by omega)
    have : iter (fun (y : (List Int) × Int) => f22_B2 m K p y.1 y.2) m (b, 0) = some (.inr (b ++ ce (p.fSubs.flatMap fun q => tight r q.vw 4), (p.fSubs.length : Int))) := this
    rw [this, brk_inr]
    rfl
  rw [bn p 3 k3, cnd_false, if_neg k3]
  by_cases k4 : p.fKind = 4
  · rw [bk p 4 k4, cnd_true, if_pos k4]
    cases hsub : p.fSubs with
    | nil => rw [hsub] at hsh; simp at hsh; omega
    | cons q s =>
      rw [hsub] at hs
      cases ns with
      | nil => exact hs.elim
      | cons k ns =>
        rw [List.sum_cons] at hns hsum
        have hlen : p.fSubs.length = s.length + 1 := by rw [hsub]; rfl
        have hcl := ce_len (tight r q.vw 2)
        have htl := tight_len 2 hs.1
        obtain ⟨M, rfl⟩ : ∃ M, m = M + 1 := ⟨m - 1, by omega⟩
        have hB : f22_B4 (M + 1) K p b 0 = some (.nxt (b ++ ce (tight r q.vw 2), ((1 : Nat) : Int))) := by
          unfold f22_B4 f22_j3
          rw [decide_eq_true (by omega : (0 : Int) < (p.fSubs.length : Int)), cnd_true, hsub, show idx (q :: s) 0 = some q from rfl, bnd_some', decide_eq_false (by omega : ¬ (0 : Int) > 0), cnd_false, hK 2 q.vw k b hs.1 (by omega), bnd_some']
          rfl
        have hrest := alt_put (M + 1) K r p (by omega) (hK 2) M 1 (b ++ ce (tight r q.vw 2)) ns (Nat.le_refl _) (by omega) (by omega) (by rw [hsub]; simpa using hs.2) (by rw [List.length_append]; omega)
        have hit : iter (fun (y : (List Int) × Int) => f22_B4 (M + 1) K p y.1 y.2) (M + 1) (b, 0) = some (.inr ((b ++ ce (tight r q.vw 2)) ++ ce ((p.fSubs.drop 1).flatMap fun q => 124 :: tight r q.vw 2), (p.fSubs.length : Int))) := by
          rw [← hrest]
          conv => lhs; unfold iter
          dsimp only
          rw [hB]
        rw [← hsub]
        rw [hit, brk_inr, hsub]
        rw [List.append_assoc, ← ce_app]
        simp only [List.drop_succ_cons, List.drop_zero, List.map_cons, sepT, tight, List.flatMap_map]
  rw [bn p 4 k4, cnd_false, if_neg k4]
  by_cases k5 : p.fKind = 5
  · have hr : p.fSubs.length = 1 ∧ 0 ≤ p.fLeast ∧ p.fLeast ≤ 9 ∧ -1 ≤ p.fMost ∧ p.fMost ≤ 9 := by omega
    obtain ⟨q, hq⟩ := List.length_eq_one_iff.1 hr.1
    rw [hq] at hs
    cases ns with
    | nil => exact hs.elim
    | cons k ns =>
      rw [List.sum_cons] at hns hsum
      have hcl := ce_len (tight r q.vw 4)
      have htl := tight_len 4 hs.1
      have : f22_j10 m K b p false = some (b ++ ce (tight r q.vw 4 ++ repT p.fLeast p.fMost)) := by
        unfold f22_j10
        rw [cnd_false, hq, show idx [q] 0 = some q from rfl, bnd_some', hK 4 q.vw k b hs.1 (by omega), bnd_some', rep_put m K p _ (by rw [List.length_append]; omega) ⟨hr.2.1, hr.2.2.1⟩ ⟨hr.2.2.2.1, hr.2.2.2.2⟩, ce_app, List.append_assoc]
      rw [bn p 6 (by omega), cnd_false, bn p 7 (by omega)]
      rw [this, hq]
      simp only [k5, if_true, tight]
  have k67 : p.fKind = 6 ∨ p.fKind = 7 := by omega
  have h2 : p.fSubs.length = 2 := by omega
  cases hq : p.fSubs with
  | nil => rw [hq] at h2; cases h2
  | cons q s =>
    cases s with
    | nil => rw [hq] at h2; cases h2
    | cons q' t =>
      have ht : t = [] := by rw [hq] at h2; simp at h2; exact h2
      subst ht
      rw [hq] at hs
      cases ns with
      | nil => exact hs.elim
      | cons k ns =>
        cases ns with
        | nil => exact hs.2.elim
        | cons k' ns =>
          simp only [List.sum_cons] at hns hsum
          have hcl := ce_len (tight r q.vw 2)
          have htl := tight_len 2 hs.1
          have hcl' := ce_len (tight r q'.vw 3)
          have htl' := tight_len 3 hs.2.1
          have key : f22_j10 m K b p true = some (b ++ ce (tight r q.vw 2 ++ (if p.fKind = 6 then 38 else 45) :: tight r q'.vw 3)) := by
            unfold f22_j10 f22_j5
            rw [cnd_true, hq, show idx [q, q'] 0 = some q from rfl, bnd_some', hK 2 q.vw k b hs.1 (by omega), bnd_some']
            have fin : ∀ c : Nat, c < 128 → (bnd (idx [q, q'] 1) fun v91 => bnd (K.r22 ((b ++ ce (tight r q.vw 2)) ++ [(c : Int)]) v91.vw 3) fun v92 => some v92) = some (b ++ ce (tight r q.vw 2 ++ c :: tight r q'.vw 3)) := by
              intro c hc
              rw [show idx [q, q'] 1 = some q' from rfl, bnd_some', hK 3 q'.vw k' _ hs.2.1 (by simp only [List.length_append, List.length_cons, List.length_nil]; omega), bnd_some', ce_app, ce_low hc]
              simp
            by_cases k6 : p.fKind = 6
            · rw [bk p 6 k6, cnd_true, app1 _ 38 (by rw [List.length_append]; omega), bnd_some', if_pos k6]
              exact fin 38 (by omega)
            · rw [bn p 6 k6, cnd_false, app1 _ 45 (by rw [List.length_append]; omega), bnd_some', if_neg k6]
              exact fin 45 (by omega)
          have hgo : (cnd (p.fKind == 6) (f22_j10 m K b p (p.fKind == 6)) (f22_j10 m K b p (p.fKind == 7))) = f22_j10 m K b p true := by
            rcases k67 with h | h
            · rw [bk p 6 h, cnd_true]
            · rw [bn p 6 (by omega), cnd_false, bk p 7 h]
          rw [hgo, key]
          simp only [if_neg k5, tight]
theorem put_txt (m : Nat) (hm : 50000 ≤ m) : ∀ (r R : Nat) (p : S24) (n : Nat) (b : List Int) (least : Int), 2 * r ≤ R → Gd r p n → b.length + 3000 * n ≤ 100000000 → (K22 m R).r22 b p least = some (b ++ ce (tight r p least))
  | 0, _, _, _, _, _, _, h, _ => h.elim
  | r + 1, 0, _, _, _, _, h, _, _ => by omega
  | r + 1, 1, _, _, _, _, h, _, _ => by omega
  | r + 1, R + 2, p, n, b, least, hR, hp, hb => by
    have hK : ∀ R', 2 * r ≤ R' → ∀ l, PutOk (K22 m R') r l := fun R' h l q k b hq hb => put_txt m hm r R' q k b l h hq hb
    have hpos := hp.pos
    show b22 m (K22 m (R + 1)) b p least = _
    by_cases hl : levK p.fKind < least
    · have hin : b22 m (K22 m R) (b ++ [40]) p 1 = some ((b ++ [40]) ++ ce (txt (r + 1) p)) := by
        exact body_put m hm _ r p n _ 1 hp (by simp only [List.length_append, List.length_cons, List.length_nil]; omega) (by have := lev_pos p.fKind; omega) (hK R (by omega))
      have hin' : (K22 m (R + 1)).r22 (b ++ [40]) p 1 = some ((b ++ [40]) ++ ce (txt (r + 1) p)) := hin
      have hcl := ce_len (txt (r + 1) p)
      have htl := txt_len (r + 1) p n hp
      unfold b22
      rw [f38_eq, bnd_some', decide_eq_true hl, cnd_true, app1 b 40 (by omega), bnd_some', hin', bnd_some', app1 _ 41 (by simp only [List.length_append, List.length_cons, List.length_nil]; omega), bnd_some']
      unfold tight wrapT
      rw [if_pos hl, ce_low (by omega : (40 : Nat) < 128), ce_app]
      simp
      rfl
    · rw [body_put m hm _ r p n b least hp (by omega) hl (hK (R + 1) (by omega))]
      unfold tight wrapT
      rw [if_neg hl]
/-- Print: a fault, or the text of a pattern that is right -/
theorem f10_eq (m : Nat) (hm : 50000 ≤ m) (p : S24) : ∃ s f, f10 m p = some (s, f) ∧ ((f = (⟨0, 0⟩ : S27) ∧ ∃ n, n ≤ 200 ∧ Gd 40 p n ∧ (ce (tight 40 p 1)).length ≤ 4000 ∧ s = strI (ce (tight 40 p 1))) ∨ f.fCode ≠ 0) := by
  obtain ⟨f, h1, h2⟩ := f9_eq m (by omega) p
  unfold f10
  rw [h1, bnd_some']
  rcases h2 with ⟨rfl, n, hn, hg⟩ | h2
  · have hput : f22 m [] p 1 = some ([] ++ ce (tight 40 p 1)) := put_txt m hm 40 m p n [] 1 (by omega) hg (by simp; omega)
    have e0 : (!(((⟨0, 0⟩ : S27).fCode == 0) && (((⟨0, 0⟩ : S27).fIndex == 0) && true))) = false := rfl
    rw [e0, cnd_false, hput, bnd_some', List.nil_append]
    by_cases hl : (ce (tight 40 p 1)).length ≤ 4000
    · rw [decide_eq_false (by omega), cnd_false]
      exact ⟨_, _, rfl, .inl ⟨rfl, n, hn, hg, hl, rfl⟩⟩
    · rw [decide_eq_true (by omega), cnd_true]
      exact ⟨_, _, rfl, .inr (by simp)⟩
  · have e0 : (!((f.fCode == 0) && ((f.fIndex == 0) && true))) = true := by
      have : (f.fCode == 0) = false := by simpa using h2
      rw [this]; rfl
    rw [e0, cnd_true]
    exact ⟨_, _, rfl, .inr h2⟩
end Go.Abs
