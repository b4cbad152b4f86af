/-
  GUESS, the plain law: words with the same last five code points have the same guesses.
-/
import Derived.Test.YtgieobehohljnaaDoorQB
import Derived.Test.YtgieobehohljnaaDoorWLaw
import Derived.Test.YtgieobehohljnaaDoorAbsZ
namespace Go.Abs
open Go.Sort Go.Proofs
set_option linter.unusedVariables false

theorem Pm.same {ys : List Smp} {rl rl' : List Int} {k : Nat} (h : ∀ i, i < k → rl.take i = rl'.take i) (x : S44) : Pm ys rl k x ↔ Pm ys rl' k x := by
  have key : ∀ {rl rl' : List Int}, (∀ i, i < k → rl.take i = rl'.take i) → Pm ys rl k x → Pm ys rl' k x := by
    rintro rl rl' h ⟨i, h1, h2, h3, h4, h5⟩
    refine ⟨i, h1, h2, by rw [← h i h1]; exact h3, by rw [← h i h1]; exact h4, fun i' g1 g2 => ?_⟩
    rw [← h i' g2]; exact h5 i' g1 g2
  exact ⟨key h, key fun i hi => (h i hi).symm⟩
theorem plain7s (a0 : List S39) (a1 a2 : ByteArray) (h0 : (WL W40) a0) (h1 : WStr a1) (h2 : WStr a2) (hz : SizedL Proofs.Tryd.prog [22, 9, 9] [(eL e39) a0, eS a1, eS a2]) : ∃ m, f7 m a0 a1 a2 = some true := by
  refine ⟨5000, ?_⟩
  have hm : 4001 < 5000 := by omega
  have hsz : a1.size ≤ Go.reachBytes := hz.2 1 9 a1 rfl rfl (by kernel_rfl)
  have hre : Go.reachBytes ≤ 1000000000000000 := by decide
  unfold f7
  rw [f9_true 5000 hm]
  simp only [bnd_some', Bool.not_true, cnd_false]
  have early : f7_r6 5000 a0 a1 a2 true = some true := rfl
  by_cases hd : a2.size ≤ 4000 ∧ ∃ L, ptsS a2 = some L
  case neg =>
    obtain ⟨c, j, hc, e⟩ := (f16_eq 5000 a2 hm).2 (by
      rcases Nat.lt_or_ge 4000 a2.size with h | h
      · exact .inl (by omega)
      · right
        cases hp : ptsS a2 with
        | none => rfl
        | some L => exact absurd ⟨h, L, hp⟩ hd)
    rw [e, bnd_some']
    have hb : ((c == 0) && ((j == 0) && true)) = false := isz_no (f := ⟨c, j⟩) hc
    simp only [hb, Bool.not_false, Bool.true_or]
    exact early
  obtain ⟨hs2, L, hL⟩ := hd
  rw [(f16_eq 5000 a2 hm).1 L hs2 hL, bnd_some']
  by_cases h5 : L.length < 5
  · have hb : decide (((castL L).length : Int) < 5) = true := decide_eq_true (by rw [castL_len]; omega)
    simp only [hb, Bool.or_true]
    exact early
  have hb : (!(((0 : Int) == 0) && (((0 : Int) == 0) && true)) || decide (((castL L).length : Int) < 5)) = false := by
    rw [decide_eq_false (by rw [castL_len]; omega)]; rfl
  simp only [hb]
  unfold f7_r6
  rw [cnd_false, f11_eq 5000 hm]
  simp only [bnd_some']
  cases hf : flt a0 with
  | some f =>
    simp only [Option.getD_some, isz_no (flt_code hf), Bool.not_false]
    rfl
  | none =>
    obtain ⟨hl, hall⟩ := flt_none hf
    have hzz : ((((Option.none : Option S27).getD ⟨0, 0⟩).fCode == 0) && ((((Option.none : Option S27).getD ⟨0, 0⟩).fIndex == 0) && true)) = true := rfl
    have hsc : scat a1 a2 = some (a1 ++ a2) := by
      unfold scat
      rw [if_pos]
      have : maxLen = 9223372036854775807 := by decide
      omega
    rw [hzz]
    unfold f7_r5
    simp only [Bool.not_true, cnd_false, hsc, bnd_some', f13_eq 5000 _ hm]
    cases hw : wordS (a1 ++ a2) with
    | false => rfl
    | true =>
      have hw' := hw
      unfold wordS at hw'
      rw [Bool.and_eq_true] at hw'
      cases hp : ptsS (a1 ++ a2) with
      | none => rw [hp] at hw'; exact absurd hw'.2 (by simp)
      | some L' =>
        rw [hp] at hw'
        have hok : okP L' = true := hw'.2
        have hcut : ptsB (bytN a1 ++ bytN a2) = some L' := by rw [← bytN_cat]; exact hp
        obtain ⟨La, Lb, g1, g2, g3⟩ := ptsB_cut (bytN a1).length (bytN a1) (bytN a2) L' (Nat.le_refl _) hcut (fun x r hx => by
          have hL' : ptsB (bytN a2) = some L := hL
          rw [hx] at hL'
          exact ptsB_head hL')
        have hLb : Lb = L := by
          have hL' : ptsB (bytN a2) = some L := hL
          rw [g2] at hL'
          exact Option.some.inj hL'
        subst hLb
        subst g3
        unfold okP at hok
        rw [Bool.and_eq_true, List.all_append, Bool.and_eq_true] at hok
        have hn := of_decide_eq_true hok.1
        rw [List.length_append] at hn
        have hw2 : wordS a2 = true := by
          unfold wordS
          rw [decide_eq_true hs2, hL, Bool.true_and]
          show okP Lb = true
          unfold okP
          rw [decide_eq_true (by omega), Bool.true_and]
          exact hok.2.2
        obtain ⟨r, e1, r1⟩ := f12_good 5000 (by rw [ysOf_len]; exact hl) hw2 (ys := ysOf a0)
        obtain ⟨r', e2, r2⟩ := f12_good 5000 (by rw [ysOf_len]; exact hl) hw (ys := ysOf a0)
        have l1 : ltr a2 = castL Lb := by unfold ltr; rw [hL]; rfl
        have l2 : ltr (a1 ++ a2) = castL La ++ castL Lb := by unfold ltr; rw [hp]; simp [castL]
        have hrl : (ltr (a1 ++ a2)).reverse = (castL Lb).reverse ++ (castL La).reverse := by rw [l2, List.reverse_append]
        have hb5 : (castL Lb).reverse.length = Lb.length := by rw [List.length_reverse, castL_len]
        have heq : r = r' := by
          refine Rk.uniq r1 ⟨r2.inv.congr fun x => ?_, r2.srt⟩
          have n1 : min 5 (ltr (a1 ++ a2)).reverse.length + 1 = 6 := by rw [hrl, List.length_append, hb5]; omega
          have n2 : min 5 (ltr a2).reverse.length + 1 = 6 := by rw [l1, hb5]; omega
          unfold Bp
          rw [n1, n2]
          refine Pm.same (fun i hi => ?_) x
          rw [hrl, l1, List.take_append_of_le_length (by rw [hb5]; omega)]
        subst heq
        have hlen := r1.len
        rw [ysOf_len] at hlen
        simp only [Bool.not_true]
        unfold f7_r4
        simp only [cnd_false, f10_good 5000 hf, bnd_some', e1, hsc, e2, f7_r3, f7_r2, f7_r1]
        have hb7 : (((((0 : Int) == 0) && (((0 : Int) == 0) && true)) && (((0 : Int) == 0) && (((0 : Int) == 0) && true))) && (((0 : Int) == 0) && (((0 : Int) == 0) && true))) = true := rfl
        simp only [hb7, cnd_true, f14_refl 5000 r (by omega) hm, bnd_some']
end Go.Abs
