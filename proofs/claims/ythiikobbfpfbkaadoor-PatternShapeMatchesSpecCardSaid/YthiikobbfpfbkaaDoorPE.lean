/-
  PATTERNS, the plain laws: Print writes that text.
-/
import Derived.Test.YthiikobbfpfbkaaDoorPD
namespace Go.Abs
open Go.Sort Go.Proofs
set_option linter.unusedVariables false
set_option maxRecDepth 100000

theorem encs_low {p : Nat} (h : p < 128) (t : List Nat) : encs (p :: t) = p :: encs t := by
  unfold encs
  rw [List.flatMap_cons]
  unfold encN
  rw [if_pos h]
  rfl
def ce (t : List Nat) : List Int := castL (encs t)
theorem ce_app (a b : List Nat) : ce (a ++ b) = ce a ++ ce b := by unfold ce; rw [encs_app, castL_app]
theorem ce_low {p : Nat} (h : p < 128) (t : List Nat) : ce (p :: t) = (p : Int) :: ce t := by unfold ce; rw [encs_low h]; rfl
theorem ce_nil : ce [] = [] := rfl
theorem ce_len (t : List Nat) : (ce t).length ≤ 4 * t.length := by unfold ce; rw [castL_len]; exact (encs_len t).2
theorem f40_eq (m : Nat) (b : List Int) (x : Int) (hx : 0 ≤ x ∧ x ≤ 9) (hb : b.length ≤ 100000000) : f40 m b x 10 = some (b ++ ce [48 + x.toNat]) := by
  have key : ∀ k : Nat, k ≤ 9 → f70 m (w64 (IntKind.u64.wrap (k : Int))) = some ⟨#[UInt8.ofNat (48 + k)]⟩ ∧ decide ((IntKind.u64.wrap (k : Int)) < 100) = true ∧ bytesI ⟨#[UInt8.ofNat (48 + k)]⟩ = ce [48 + k] := by
    intro k hk
    have : k = 0 ∨ k = 1 ∨ k = 2 ∨ k = 3 ∨ k = 4 ∨ k = 5 ∨ k = 6 ∨ k = 7 ∨ k = 8 ∨ k = 9 := by omega
    rcases this with rfl | rfl | rfl | rfl | rfl | rfl | rfl | rfl | rfl | rfl <;> exact ⟨by kernel_rfl, by kernel_rfl, by kernel_rfl⟩
  obtain ⟨k, rfl⟩ : ∃ k : Nat, x = (k : Int) := ⟨x.toNat, by omega⟩
  obtain ⟨h1, h2, h3⟩ := key k (by omega)
  unfold f40 f58 f58_j1
  rw [decide_eq_false (by omega : ¬ (k : Int) < 0), cnd_false]
  unfold f66
  rw [show ((10 : Int) == 10) = true from rfl, cnd_true, h2, cnd_true, h1, bnd_some', h3, app_bnd]
  have e : ∀ z : Option (List Int), (bnd z fun v => some v) = z := fun z => by cases z <;> rfl
  rw [e, e]
  have hl := ce_len [48 + k]
  simp only [List.length_cons, List.length_nil] at hl
  exact app_some 1 _ _ (by omega) (by omega)
theorem okC_nat {x : Int} (h : okC x) : ∃ p : Nat, x = (p : Int) ∧ ScalarN p ∧ 1 ≤ p := ⟨x.toNat, by obtain ⟨h1, h2, h3⟩ := h; omega, by obtain ⟨h1, h2, h3⟩ := h; exact ⟨by omega, by omega⟩, by obtain ⟨h1, h2, h3⟩ := h; omega⟩
theorem lab_put (m : Nat) (K : Rec22) (p : S24) (hl : p.fLabels.length ≤ 300) (hok : ∀ x ∈ p.fLabels, okC x) : ∀ (M i : Nat) (b : List Int), i ≤ p.fLabels.length → p.fLabels.length < M + i → b.length + 8 * (p.fLabels.length - i) ≤ 100000000 →
    iter (fun (y : (List Int) × Int) => f22_B1 m K p y.1 y.2) M (b, (i : Int)) = some (.inr (b ++ ce (labT (p.fLabels.drop i)), (p.fLabels.length : Int)))
  | 0, i, b, h1, h2, _ => by omega
  | M + 1, i, b, h1, h2, h3 => by
    have hwi : w64 ((i : Int) + 1) = ((i + 1 : Nat) : Int) := by rw [w64_id ⟨by omega, by omega⟩]; omega
    unfold iter
    dsimp only
    have hB : f22_B1 m K p b (i : Int) = if i < p.fLabels.length then some (.nxt (b ++ ce (labT (p.fLabels.drop i |>.take 1)), ((i + 1 : Nat) : Int))) else some (.brk (b, (i : Int))) := by
      unfold f22_B1
      rcases Nat.lt_or_ge i p.fLabels.length with hlt | hge
      · have hx := List.getElem?_eq_getElem hlt
        have e1 : idx p.fLabels (i : Int) = some p.fLabels[i] := by simp [idx, hx]
        obtain ⟨c, hc1, hc2, hc3⟩ := okC_nat (hok _ (List.getElem_mem hlt))
        rw [decide_eq_true (by omega : (i : Int) < (p.fLabels.length : Int)), cnd_true, e1, bnd_some', if_pos hlt, List.drop_eq_getElem_cons hlt, hc1, f39_eq m b c hc2 (by omega), bnd_some', hwi]
        simp only [List.take_succ_cons, List.take_zero, labT, List.flatMap_cons, List.flatMap_nil, List.append_nil, ce]
        rfl
      · rw [decide_eq_false (by omega), cnd_false, if_neg (by omega)]
    rw [hB]
    by_cases hlt : i < p.fLabels.length
    · rw [if_pos hlt]
      have hsl := labT_len ((p.fLabels.drop i).take 1)
      have hcl := ce_len (labT ((p.fLabels.drop i).take 1))
      have h1l : ((p.fLabels.drop i).take 1).length ≤ 1 := by rw [List.length_take]; omega
      have ih := lab_put m K p hl hok M (i + 1) (b ++ ce (labT ((p.fLabels.drop i).take 1))) hlt (by omega) (by rw [List.length_append]; omega)
      refine ih.trans ?_
      congr 3
      rw [List.append_assoc, ← ce_app]
      congr 2
      unfold labT
      rw [← List.flatMap_append]
      congr 1
      have := List.take_append_drop 1 (p.fLabels.drop i)
      rw [List.drop_drop] at this
      exact this
    · rw [if_neg hlt]
      have : i = p.fLabels.length := by omega
      subst this
      rw [List.drop_length]
      simp [labT, ce_nil]
/-! ### parts one after the other -/
def PutOk (K : Rec22) (r : Nat) (least : Int) : Prop := ∀ (q : S24) (n : Nat) (b : List Int), Gd r q n → b.length + 3000 * n ≤ 100000000 → K.r22 b q least = some (b ++ ce (tight r q least))
theorem seq_put (m : Nat) (K : Rec22) (r : Nat) (p : S24) (hlen : p.fSubs.length ≤ 100000) (hK : PutOk K r 4) : ∀ (M i : Nat) (b : List Int) (ns : List Nat), i ≤ p.fSubs.length → p.fSubs.length < M + i → F2 (fun q k => Gd r (P24.vw q) k) (p.fSubs.drop i) ns → b.length + 3000 * ns.sum ≤ 99998000 →
    iter (fun (y : (List Int) × Int) => f22_B2 m K p y.1 y.2) M (b, (i : Int)) = some (.inr (b ++ ce ((p.fSubs.drop i).flatMap fun q => tight r q.vw 4), (p.fSubs.length : Int)))
  | 0, i, b, ns, h1, h2, _, _ => by omega
  | M + 1, i, b, ns, h1, h2, h3, h4 => by
    have hwi : w64 ((i : Int) + 1) = ((i + 1 : Nat) : Int) := by rw [w64_id ⟨by omega, by omega⟩]; omega
    unfold iter
    dsimp only
    by_cases hlt : i < p.fSubs.length
    · have hx := List.getElem?_eq_getElem hlt
      have e1 : idx p.fSubs (i : Int) = some p.fSubs[i] := by simp [idx, hx]
      rw [List.drop_eq_getElem_cons hlt] at h3 ⊢
      cases ns with
      | nil => exact h3.elim
      | cons k ns =>
        rw [List.sum_cons] at h4
        have hB : f22_B2 m K p b (i : Int) = some (.nxt (b ++ ce (tight r p.fSubs[i].vw 4), ((i + 1 : Nat) : Int))) := by
          unfold f22_B2
          rw [decide_eq_true (by omega : (i : Int) < (p.fSubs.length : Int)), cnd_true, e1, bnd_some', hK p.fSubs[i].vw k b h3.1 (by omega), bnd_some', hwi]
        rw [hB]
        have hcl := ce_len (tight r p.fSubs[i].vw 4)
        have htl := tight_len 4 h3.1
        have ih := seq_put m K r p hlen hK M (i + 1) (b ++ ce (tight r p.fSubs[i].vw 4)) ns hlt (by omega) h3.2 (by rw [List.length_append]; omega)
        refine ih.trans ?_
        rw [List.append_assoc, ← ce_app, List.flatMap_cons]
    · have : i = p.fSubs.length := by omega
      subst this
      have hB : f22_B2 m K p b (p.fSubs.length : Int) = some (.brk (b, (p.fSubs.length : Int))) := by
        unfold f22_B2
        rw [decide_eq_false (by omega), cnd_false]
      rw [hB, List.drop_length]
      simp [ce_nil]
theorem alt_put (m : Nat) (K : Rec22) (r : Nat) (p : S24) (hlen : p.fSubs.length ≤ 100000) (hK : PutOk K r 2) : ∀ (M i : Nat) (b : List Int) (ns : List Nat), 1 ≤ i → i ≤ p.fSubs.length → p.fSubs.length < M + i → F2 (fun q k => Gd r (P24.vw q) k) (p.fSubs.drop i) ns → b.length + 3000 * ns.sum ≤ 99998000 →
    iter (fun (y : (List Int) × Int) => f22_B4 m K p y.1 y.2) M (b, (i : Int)) = some (.inr (b ++ ce ((p.fSubs.drop i).flatMap fun q => 124 :: tight r q.vw 2), (p.fSubs.length : Int)))
  | 0, i, b, ns, _, h1, h2, _, _ => by omega
  | M + 1, i, b, ns, h0, h1, h2, h3, h4 => by
    have hwi : w64 ((i : Int) + 1) = ((i + 1 : Nat) : Int) := by rw [w64_id ⟨by omega, by omega⟩]; omega
    unfold iter
    dsimp only
    by_cases hlt : i < p.fSubs.length
    · have hx := List.getElem?_eq_getElem hlt
      have e1 : idx p.fSubs (i : Int) = some p.fSubs[i] := by simp [idx, hx]
      rw [List.drop_eq_getElem_cons hlt] at h3 ⊢
      cases ns with
      | nil => exact h3.elim
      | cons k ns =>
        rw [List.sum_cons] at h4
        have hk1 := Gd.pos h3.1
        have hB : f22_B4 m K p b (i : Int) = some (.nxt ((b ++ [124]) ++ ce (tight r p.fSubs[i].vw 2), ((i + 1 : Nat) : Int))) := by
          unfold f22_B4 f22_j3
          rw [decide_eq_true (by omega : (i : Int) < (p.fSubs.length : Int)), cnd_true, e1, bnd_some', decide_eq_true (by omega : (i : Int) > 0), cnd_true,
            app_some 1 b [124] (by simp; omega) (by simp; omega), bnd_some', hK p.fSubs[i].vw k (b ++ [124]) h3.1 (by simp; omega), bnd_some', hwi]
        rw [hB]
        have hcl := ce_len (tight r p.fSubs[i].vw 2)
        have htl := tight_len 2 h3.1
        have ih := alt_put m K r p hlen hK M (i + 1) ((b ++ [124]) ++ ce (tight r p.fSubs[i].vw 2)) ns (by omega) hlt (by omega) h3.2 (by rw [List.length_append, List.length_append]; simp; omega)
        refine ih.trans ?_
        rw [List.append_assoc, ← ce_app, List.flatMap_cons, List.cons_append, ce_low (by omega : (124 : Nat) < 128), List.append_assoc]
        rfl
    · have : i = p.fSubs.length := by omega
      subst this
      have hB : f22_B4 m K p b (p.fSubs.length : Int) = some (.brk (b, (p.fSubs.length : Int))) := by
        unfold f22_B4
        rw [decide_eq_false (by omega), cnd_false]
      rw [hB, List.drop_length]
      simp [ce_nil]
end Go.Abs
