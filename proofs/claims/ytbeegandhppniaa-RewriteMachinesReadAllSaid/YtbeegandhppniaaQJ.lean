import Derived.Test.YtbeegandhppniaaQI
import Derived.Test.YtbeegandhppniaaWLaw
namespace Go.Abs.Qj
open Go.Sort Go.Abs Go.Abs.Qa Go.Abs.Qb Go.Abs.Qc Go.Abs.Qd Go.Abs.Qe Go.Abs.Qf Go.Abs.Qg Go.Abs.Qh Go.Abs.Qi Go.Abs.Yb Go.Abs.Yc Go.Abs.Yf Go.Abs.Yg Go.Abs.Yh Go.Abs.Yi Go.Abs.Yk
set_option linter.unusedVariables false
set_option linter.unusedSimpArgs false
set_option linter.unnecessarySimpa false
set_option maxRecDepth 100000
theorem pth_of {A B : List S53} (h : ∀ s x t, (∃ a ∈ A, Rd.frS a = s ∧ Rd.lbS a = x ∧ Rd.toS a = t) → ∃ a ∈ B, Rd.frS a = s ∧ Rd.lbS a = x ∧ Rd.toS a = t) {s : Nat} {w : List Int} {t : Nat} (hp : Pth Rd.frS Rd.toS Rd.lbS A s w t) : Pth Rd.frS Rd.toS Rd.lbS B s w t := by
 induction hp with
 | nil s => exact .nil s
 | eps ha he _ ih =>
  obtain ⟨b, hb, e1, e2, e3⟩ := h _ _ _ ⟨_, ha, rfl, rfl, rfl⟩
  rw [← e1]
  rw [← e3] at ih
  exact .eps hb (e2.trans he) ih
 | lab ha he h0 _ ih =>
  obtain ⟨b, hb, e1, e2, e3⟩ := h _ _ _ ⟨_, ha, rfl, rfl, rfl⟩
  rw [← e1]
  rw [← e3] at ih
  exact .lab hb (e2.trans he) h0 ih
def inM (o : S28) : S28 := ⟨o.fStates, Rd.redW (o.fArcs.map Rd.outA), o.fFinals⟩
theorem f7_ok (m : Nat) {R : S23} {al : List Int} {o : S28} (h : Made R al o) (hal : LabOk al) (hs : o.fStates ≤ 400) (ha : o.fArcs.length ≤ 2000) : f7 m o = some (inM o, ⟨0, 0⟩) := by
 obtain ⟨e, h1, h2⟩ := made_valid Rd.MO (by decide) h hal hs ha
 show Rd.f22F o = _
 unfold Rd.f22F
 rw [if_pos ⟨by omega, by omega⟩, e]
 rfl
theorem f8_ok (m : Nat) {R : S23} {al : List Int} {o : S28} (h : Made R al o) (hs : o.fStates ≤ 400) (ha : o.fArcs.length ≤ 2000) {w : List Int} (hw : w.length ≤ 30) (hw1 : ∀ x ∈ w, 1 ≤ x ∧ x ≤ 1114111) : f8 m (inM o) w = some (decide (∀ x ∈ w, x ∈ al)) := by
 obtain ⟨K, S, W, A, F, ol, dn, ss, rfl, hss, hK, h100, hM, hF, hol, hrd⟩ := h.ex
 have hks := hM.ks
 have hFl := hF.len
 have hsl : ss.length = F.length := by rw [← hss, List.length_map]
 have hpl : (srtC cfS ss).length = ss.length := (srtC_perm ss).length_eq
 have hs : (S : Int) ≤ 400 := hs
 have ha : (srtC cmpA A).length ≤ 2000 := ha
 have hmemF : ∀ f, f ∈ ((srtC cfS ss).map fun x => (⟨(x.val : Int), 0⟩ : S58)) ↔ f ∈ F := fun f => by
  rw [← hss, List.mem_map, List.mem_map]
  exact ⟨fun ⟨x, hx, e⟩ => ⟨x, (srtC_perm ss).mem_iff.1 hx, e⟩, fun ⟨x, hx, e⟩ => ⟨x, (srtC_perm ss).mem_iff.2 hx, e⟩⟩
 have hAr : ∀ s x t, (∃ a ∈ Rd.redW ((srtC cmpA A).map Rd.outA), Rd.frS a = s ∧ Rd.lbS a = x ∧ Rd.toS a = t) ↔ ∃ a ∈ A, Rd.frS a = s ∧ Rd.lbS a = x ∧ Rd.toS a = t := fun s x t => by
  rw [← Rd.red_ar]
  exact ⟨fun ⟨a, h1, h2, h3, h4⟩ => ⟨a, (srtC_perm A).mem_iff.1 h1, h2, h3, h4⟩, fun ⟨a, h1, h2, h3, h4⟩ => ⟨a, (srtC_perm A).mem_iff.2 h1, h2, h3, h4⟩⟩
 have hok : Rd.OkA (inM ⟨(S : Int), srtC cmpA A, (srtC cfS ss).map fun x => ⟨(x.val : Int), 0⟩⟩) S := by
  refine ⟨⟨rfl, by omega, fun a hm => ?_, ?_⟩, fun f hf => ?_, by show ((srtC cfS ss).map _).length ≤ 1000000; rw [List.length_map]; omega⟩
  ·have hm : a ∈ Rd.redW ((srtC cmpA A).map Rd.outA) := hm
   unfold Rd.redW at hm
   obtain ⟨a0, h0, rfl⟩ := List.mem_map.1 ((srtC_perm _).mem_iff.1 (Rd.compactL_sub _ _ hm))
   have h0 := hM.arc a0 ((srtC_perm A).mem_iff.1 h0)
   obtain ⟨f, f1, f2⟩ := h0.fr
   obtain ⟨t, t1, t2⟩ := h0.to
   have e1 : Rd.frS (Rd.outA a0) = f := by show a0.fFrom.toNat = f; rw [f1]; rfl
   have e2 : Rd.toS (Rd.outA a0) = t := by show a0.fTo.toNat = t; rw [t1]; rfl
   rw [e1, e2]
   exact ⟨f1, f2, t1, t2⟩
  ·show (Rd.redW ((srtC cmpA A).map Rd.outA)).length ≤ 1000000
   unfold Rd.redW
   have h1 := Rd.compactL_le (srtC cmpA ((srtC cmpA A).map Rd.outA))
   have h2 : (srtC cmpA ((srtC cmpA A).map Rd.outA)).length = (srtC cmpA A).length := by rw [(srtC_perm (c := cmpA) ((srtC cmpA A).map Rd.outA)).length_eq, List.length_map]
   omega
  ·have hf := (hmemF f).1 hf
   obtain ⟨i, hi, e⟩ := List.getElem_of_mem hf
   obtain ⟨y, b1, b2, _, _⟩ := hF.f i (by omega)
   rw [List.getElem?_eq_getElem hi, e] at b1
   have b1 := Option.some.inj b1
   subst b1
   exact ⟨rfl, b2⟩
 have key : Rd.accB (inM ⟨(S : Int), srtC cmpA A, (srtC cfS ss).map fun x => ⟨(x.val : Int), 0⟩⟩) S w = decide (∀ x ∈ w, x ∈ al) := by
  rw [Bool.eq_iff_iff, decide_eq_true_eq, Rd.accB_iff hok (by omega), ← acc_over hM hF hrd hK w]
  constructor
  ·rintro ⟨_, f, hf, hp⟩
   exact ⟨f, (hmemF f).1 hf, pth_of (fun s x t h => (hAr s x t).1 h) hp⟩
  ·rintro ⟨f, hf, hp⟩
   exact ⟨fun x hx => (hw1 x hx).1, f, (hmemF f).2 hf, pth_of (fun s x t h => (hAr s x t).2 h) hp⟩
 show f8L _ w = _
 unfold f8L
 rw [if_pos ⟨hok, by unfold maxLen; omega⟩]
 exact congrArg some key
theorem f5_97 : Yk.f5 MC ⟨[97], [], [], []⟩ [97, 98] = some (Yv.M97, ⟨0, 0⟩) := by
 have h1 : buildM MC ⟨[97], [], [], []⟩ [97, 98] = some ⟨2, srtC cmpA Yv.M97.fArcs, (srtC cfS [0, 1]).map fun x => ⟨(x.val : Int), 0⟩⟩ := by kernel_rfl
 have h2 : srtC cmpA Yv.M97.fArcs = Yv.M97.fArcs := (srtC_is toA _ _ (List.Perm.refl _) (by decide)).symm
 have h3 : srtC cfS [0, 1] = [0, 1] := (srtC_is toS _ _ (List.Perm.refl _) (by decide)).symm
 rw [h2, h3] at h1
 have h4 : f12 MC ⟨[97], [], [], []⟩ = some 0 := by kernel_rfl
 have h5 : alM [97, 98] ([97, 98] : List Int).length 0 = none := by kernel_rfl
 unfold Yk.f5
 rw [h4]
 dsimp only
 rw [if_neg (by decide), if_neg (by decide), h5]
 dsimp only
 rw [h1]
 rfl
theorem f4_ok : f4 4000 = some true := by
 have h1 : f5 4000 ⟨[97], [], [], []⟩ [97, 98] = some (Yv.M97, ⟨0, 0⟩) := f5_97
 have h2 : f10 4000 Yv.M97 = some ⟨0, 0⟩ := by kernel_rfl
 have h3 : f11 4000 Yv.M97 [97, 98] [98] = some (0, true, ⟨0, 0⟩) := by unfold f11; rw [if_pos ⟨rfl, rfl, rfl⟩]
 unfold f4
 rw [h1, bnd_some']
 dsimp only
 rw [h2]
 show f4_r3 4000 (Yv.M97, ⟨0, 0⟩) false = some true
 unfold f4_r3
 rw [cnd_false]
 dsimp only
 rw [h3]
 rfl
theorem plain3 (a0 : S23) (a1 a2 : List Int) : f3 4000 a0 a1 a2 = some true := by
 unfold f3
 rw [f4_ok, bnd_some', Bool.not_true, cnd_false]
 obtain ⟨o, f, e5, hf⟩ := comp_ok MC (by decide) (by decide) a0 a1
 have e5 : f5 4000 a0 a1 = some (o, f) := e5
 rw [e5, bnd_some']
 by_cases h0 : f.fCode = 0
 ·obtain ⟨rfl, hal, h300, hMade, hs, ha⟩ := hf h0
  rw [show (!((((o, (⟨0, 0⟩ : S30)) : S28 × S30).2.fCode == 0) && ((((o, (⟨0, 0⟩ : S30)) : S28 × S30).2.fIndex == 0) && true))) = false from rfl, cnd_false]
  obtain ⟨r, e6, hr⟩ := f6_ok 4000 (by decide) (by decide) a2
  rw [e6, bnd_some']
  by_cases hz : (((r.fCode == 0) && ((r.fIndex == 0) && true))) = true
  ·rw [hz, Bool.not_true, bnd_some']
   unfold f3_r2
   rw [cnd_false]
   have hc : r.fCode = 0 := by
    rw [Bool.and_eq_true] at hz
    simpa using hz.1
   obtain ⟨hw, hw1⟩ := hr hc
   dsimp only
   rw [f7_ok 4000 hMade hal hs ha, bnd_some']
   rw [show ((((inM o, (⟨0, 0⟩ : S30)) : S28 × S30).2.fCode == 0) && ((((inM o, (⟨0, 0⟩ : S30)) : S28 × S30).2.fIndex == 0) && true)) = true from rfl, cnd_true]
   dsimp only
   rw [f8_ok 4000 hMade hs ha hw hw1, bnd_some', f9_ok 4000 (by omega) (by omega) (by decide), bnd_some', bnd_some']
   unfold f3_r1
   simp
  ·rw [Bool.not_eq_true] at hz
   rw [hz, Bool.not_false, bnd_some']
   rfl
 ·rw [show (!((((o, f) : S28 × S30).2.fCode == 0) && ((((o, f) : S28 × S30).2.fIndex == 0) && true))) = true by simp [h0], cnd_true, bnd_some']
  rfl
end Go.Abs.Qj
