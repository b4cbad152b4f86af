/-
  GUESS, the plain law: with more words known no tag is suggested by a shorter suffix, and none is lost.
-/
import Derived.Test.YtgieobehohljnaaDoorQB
import Derived.Test.YtgieobehohljnaaDoorWLaw
namespace Go.Abs
open Go.Sort Go.Proofs
set_option linter.unusedVariables false

/-- as good a guess of the same tag -/
def asGood (p q : S44) : Bool := (p.fTag.toList == q.fTag.toList) && (decide (q.fLength > p.fLength) || ((q.fLength == p.fLength) && decide (q.fCount ≥ p.fCount)))
theorem f6_some (m : Nat) (hm : 4001 < m) (r' : List S44) (f : S27) (p : S44) (hr : r'.length ≤ 1000) : iter (fun (y : Bool × Int) => f6_B2 m (r', f) p y.1 y.2) m (false, 0) = some (.inr (r'.any (asGood p), (r'.length : Int))) := by
  have e : iter (fun (y : Bool × Int) => f6_B2 m (r', f) p y.1 y.2) m (false, 0) = landed (fun (s : Bool) (i : Int) => (s, i)) r'.length (scan (fun _ (s : Bool) (z : S44) => (some (.inr (s || asGood p z)) : Option (Bool ⊕ Bool))) 0 false r') := by
    refine iter_scan r' (fun (y : Bool × Int) => f6_B2 m (r', f) p y.1 y.2) (fun (s : Bool) (i : Int) => (s, i)) _ (fun s i hi => ?_) m 0 false (by omega) (by omega)
    unfold f6_B2
    refine body_turn' rfl fun z hz => ?_
    have hw : w64 ((i : Int) + 1) = (i : Int) + 1 := w64_id ⟨by omega, by omega⟩
    rw [idx_get, hz]
    simp only [bnd_some', f6_r1, hw, asGood]
  have hs : ∀ (l : List S44) (i : Int) (s : Bool), scan (fun _ (s : Bool) (z : S44) => (some (.inr (s || asGood p z)) : Option (Bool ⊕ Bool))) i s l = some (.inr (s || l.any (asGood p))) := by
    intro l
    induction l with
    | nil => intro i s; simp [scan]
    | cons y r ih => intro i s; simp only [scan, ih, List.any_cons, Bool.or_assoc]
  rw [e, hs]
  simp [landed]
theorem f6_all (m : Nat) (hm : 4001 < m) (r r' : List S44) (f f' : S27) (hr : r.length ≤ 1000) (hr' : r'.length ≤ 1000) (h : ∀ p ∈ r, r'.any (asGood p) = true) : f6_r4 m (r, f) (r', f') false = some true := by
  unfold f6_r4
  rw [cnd_false]
  have e : iter (fun (y : Int) => f6_B3 m (r, f) (r', f') y) m 0 = landed (fun (_ : Unit) (i : Int) => i) r.length (scan (fun _ (_ : Unit) (p : S44) => if r'.any (asGood p) then some (.inr ()) else some (.inl false)) 0 () r) := by
    refine iter_scan r (fun (y : Int) => f6_B3 m (r, f) (r', f') y) (fun (_ : Unit) (i : Int) => i) _ (fun u i hi => ?_) m 0 () (by omega) (by omega)
    unfold f6_B3
    refine body_turn' rfl fun p hp => ?_
    have hw : w64 ((i : Int) + 1) = (i : Int) + 1 := w64_id ⟨by omega, by omega⟩
    have hb := h p (List.mem_of_getElem? hp)
    rw [idx_get, hp, bnd_some', f6_some m hm r' f' p hr', brk_inr]
    simp only [hb, Bool.not_true, cnd_false, if_true, hw]
  rw [e, scan_all fun p => r'.any (asGood p), List.all_eq_true.2 h]
  rfl
theorem cntN_more (ys zs : List Smp) (p : List Int) (t : ByteArray) : cntN ys p t ≤ cntN (ys ++ zs) p t := by
  unfold cntN
  rw [List.countP_append]
  omega
theorem plain6 (a0 a1 : List S39) (a2 : ByteArray) (h0 : (WL W40) a0) (h1 : (WL W40) a1) (h2 : WStr a2) (hz : UptoL Proofs.Tryd.prog [22, 22, 9] [eL e39 a0, eL e39 a1, eS a2]) : ∃ m, f6 m a0 a1 a2 = some true := by
  refine ⟨5000, ?_⟩
  have hm : 4001 < 5000 := by omega
  have b0 : (a0.map e39).length ≤ 1048576 := hz.1 0 22 40 (a0.map e39) rfl rfl (by kernel_rfl)
  have b1 : (a1.map e39).length ≤ 1048576 := hz.1 1 22 40 (a1.map e39) rfl rfl (by kernel_rfl)
  rw [List.length_map] at b0 b1
  have p1 : app 32 [] a0 = some a0 := by
    rw [app_some 32 [] a0 (by simp; omega) (by simp; omega)]; rfl
  have p2 : app 32 a0 a1 = some (a0 ++ a1) := app_some 32 _ _ (by omega) (by omega)
  unfold f6
  rw [f9_true 5000 hm]
  simp only [bnd_some', Bool.not_true, cnd_false, p1, p2, f11_eq 5000 hm]
  cases hf : flt a0 with
  | some f =>
    simp only [Option.getD_some, isz_no (flt_code hf), Bool.not_false, cnd_true, bnd_some', f6_r6]
  | none =>
    have hn : ((((Option.none : Option S27).getD ⟨0, 0⟩).fCode == 0) && ((((Option.none : Option S27).getD ⟨0, 0⟩).fIndex == 0) && true)) = true := rfl
    cases hg : flt (a0 ++ a1) with
    | some f =>
      simp only [hn, Bool.not_true, cnd_false, Option.getD_some, isz_no (flt_code hg), Bool.not_false, cnd_true, bnd_some', f6_r6]
    | none =>
      obtain ⟨hl, hall⟩ := flt_none hf
      obtain ⟨hl2, hall2⟩ := flt_none hg
      simp only [hn, Bool.not_true, cnd_false, bnd_some', f6_r6, f10_good 5000 hf, f10_good 5000 hg, f6_r5]
      cases hw : wordS a2 with
      | false =>
        simp only [f12_word 5000 _ hw, bnd_some']
        exact f6_all 5000 hm [] [] _ _ (by simp) (by simp) (fun p hp => by cases hp)
      | true =>
        obtain ⟨r, e1, r1⟩ := f12_good 5000 (by rw [ysOf_len]; exact hl) hw (ys := ysOf a0)
        obtain ⟨r', e2, r2⟩ := f12_good 5000 (by rw [ysOf_len]; exact hl2) hw (ys := ysOf (a0 ++ a1))
        have l1 := r1.len
        have l2 := r2.len
        rw [ysOf_len] at l1 l2
        simp only [e1, e2, bnd_some']
        refine f6_all 5000 hm r r' _ _ (by omega) (by omega) fun p hp => ?_
        obtain ⟨i, g1, g2, g3, g4, g5⟩ := (r1.inv.2 p).1 hp
        have hys : ysOf (a0 ++ a1) = ysOf a0 ++ ysOf a1 := by unfold ysOf; rw [List.map_append]
        have hc := cntN_more (ysOf a0) (ysOf a1) ((ltr a2).reverse.take i) p.fTag
        rw [← hys] at hc
        obtain ⟨x, ex, hx, hxl, hxc⟩ := Pm.cover (ys := ysOf (a0 ++ a1)) (rl := (ltr a2).reverse) (t := p.fTag) (i := i) (by omega) (min 5 (ltr a2).reverse.length) (by omega)
        refine List.any_eq_true.2 ⟨x, (r2.inv.2 x).2 hx, ?_⟩
        unfold asGood
        have ht : (p.fTag.toList == x.fTag.toList) = true := by rw [ex]; simp
        rw [ht, Bool.true_and, Bool.or_eq_true, Bool.and_eq_true, decide_eq_true_eq, decide_eq_true_eq, beq_iff_eq]
        by_cases hlt : x.fLength > p.fLength
        · exact .inl hlt
        · refine .inr ⟨by omega, ?_⟩
          have := hxc (by omega)
          omega
end Go.Abs
