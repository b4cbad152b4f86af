import Derived.Test.YthjhdnonlkooiaaDoorQC
import Derived.Test.YthjhdnonlkooiaaDoorQ6T
namespace Go.Abs
set_option linter.unusedVariables false
/-! ### the classes of words -/
abbrev RC := List Int × S27
def pFault (i : Int) (p : S23) : Option S27 := if (faultS p).fCode ≠ 0 then some ⟨(faultS p).fCode, i⟩ else none
def xFault (i : Int) (x : S41) : Option S27 := if tagsS x.fTags ≠ 0 then some ⟨tagsS x.fTags, i⟩ else if wordS x.fForm then none else some ⟨5, i⟩
def faultStep {α : Type} (g : Int → α → Option S27) (i : Int) (_ : Unit) (x : α) : Option (RC ⊕ Unit) := match g i x with
  | some f => some (.inl ([], f))
  | none => some (.inr ())
theorem scan_fault {α : Type} (g : Int → α → Option S27) : ∀ (xs : List α) (i : Int), scan (faultStep g) i () xs = match firstFault g i xs with
    | some f => some (.inl ([], f))
    | none => some (.inr ())
  | [], i => rfl
  | x :: r, i => by
    simp only [scan, firstFault, faultStep]
    cases hg : g i x with
    | some f => rfl
    | none => exact scan_fault g r (i + 1)
/-- the numbers of those that are found -/
def clsS (q : S23 → Bool) : Int → List S23 → List Int
  | _, [] => []
  | i, p :: r => if q p then i :: clsS q (i + 1) r else clsS q (i + 1) r
theorem scan_cls {R : Type} (q : S23 → Bool) : ∀ (ps : List S23) (i : Int) (s : List Int), scan (R := R) (fun i s p => some (.inr (if q p then s ++ [i] else s))) i s ps = some (.inr (s ++ clsS q i ps))
  | [], i, s => by simp [scan, clsS]
  | p :: r, i, s => by
    simp only [scan, clsS]
    cases q p with
    | true => simp only [if_true]; rw [scan_cls q r]; simp
    | false => simp only [Bool.false_eq_true, if_false]; exact scan_cls q r (i + 1) s
noncomputable def foundB (forms : List S41) (p : S23) : Bool := @decide (found forms p) (Classical.propDecidable _)
theorem foundB_iff {forms : List S41} {p : S23} : foundB forms p = true ↔ found forms p := by unfold foundB; exact @decide_eq_true_iff _ (Classical.propDecidable _)
noncomputable def clsRes (ps : List S23) (forms : List S41) : RC :=
  if 40 < ps.length then ([], ⟨2, -1⟩) else match firstFault pFault 0 ps with
    | some f => ([], f)
    | none => if forms.length < 1 ∨ 300 < forms.length then ([], ⟨9, -2⟩) else match firstFault xFault 0 forms with
      | some f => ([], f)
      | none => (clsS (foundB forms) 0 ps, ⟨0, 0⟩)
theorem pFault_none {i : Int} {p : S23} (h : pFault i p = none) : faultS p = ⟨0, 0⟩ ∧ p.fCells.length ≤ 40 ∧ ∀ c ∈ p.fCells, cellOk c := by
  unfold pFault at h
  split at h
  · cases h
  · rename_i hn
    rcases faultS_cases p with ⟨h1, h2, _, _, h5⟩ | h'
    · exact ⟨h1, h2, h5⟩
    · exact absurd h' (by simpa using hn)
theorem xFault_none {i : Int} {x : S41} (h : xFault i x = none) : x.fTags.length ≤ 4 ∧ wordS x.fForm = true := by
  unfold xFault at h
  split at h
  · cases h
  · rename_i ht
    split at h
    · rename_i hw
      refine ⟨?_, hw⟩
      rcases Nat.lt_or_ge 4 x.fTags.length with hl | hl
      · exfalso
        have : tagsS x.fTags = 2 := by unfold tagsS; rw [if_pos hl]
        omega
      · exact hl
    · cases h
theorem pFault_step (m : Nat) (p : S23) (i : Int) (hm : 4001 < m) : (cnd (!((faultS p).fCode == 0 && ((faultS p).fIndex == 0 && true))) (some (some (⟨(faultS p).fCode, i⟩ : S27))) (some none)) = some (pFault i p) := by
  unfold pFault
  rcases faultS_cases p with ⟨h1, _⟩ | h
  · rw [h1]; rfl
  · have hb : ((faultS p).fCode == 0) = false := by simpa using h
    rw [hb, if_pos h]; rfl
theorem f23_b1 (m : Nat) (ps : List S23) (hl : ps.length ≤ 40) (hm : 4001 < m) : iter (fun (y : Int) => f23_B1 m ps y) m 0 = landed (fun (_ : Unit) (i : Int) => i) ps.length (scan (faultStep pFault) 0 () ps) := by
  refine iter_scan ps (fun (y : Int) => f23_B1 m ps y) (fun (_ : Unit) (i : Int) => i) _ (fun u k hi => ?_) m 0 () (by omega) (by omega)
  unfold f23_B1
  refine body_turn rfl fun x hx => ?_
  have hw : w64 ((k : Int) + 1) = (k : Int) + 1 := w64_id ⟨by omega, by omega⟩
  simp only [f15_eq m x hm, bnd_some', f33, hw, faultStep, pFault]
  rcases faultS_cases x with ⟨h1, _⟩ | h
  · rw [h1]; rfl
  · have hb : ((faultS x).fCode == 0) = false := by simpa using h
    rw [hb, if_pos h]; rfl
theorem f24_b1 (m : Nat) (ps : List S23) (hl : ps.length ≤ 40) (hm : 4001 < m) : iter (fun (y : Int) => f24_B1 m ps y) m 0 = landed (fun (_ : Unit) (i : Int) => i) ps.length (scan (faultStep pFault) 0 () ps) := by
  refine iter_scan ps (fun (y : Int) => f24_B1 m ps y) (fun (_ : Unit) (i : Int) => i) _ (fun u k hi => ?_) m 0 () (by omega) (by omega)
  unfold f24_B1
  refine body_turn rfl fun x hx => ?_
  have hw : w64 ((k : Int) + 1) = (k : Int) + 1 := w64_id ⟨by omega, by omega⟩
  simp only [f14_eq m x hm, bnd_some', f36, hw, faultStep, pFault]
  rcases faultS_cases x with ⟨h1, _⟩ | h
  · rw [h1]; rfl
  · have hb : ((faultS x).fCode == 0) = false := by simpa using h
    rw [hb, if_pos h]; rfl
theorem f23_b2 (m : Nat) (forms : List S41) (hl : forms.length ≤ 300) (hm : 4001 < m) : iter (fun (y : Int) => f23_B2 m forms y) m 0 = landed (fun (_ : Unit) (i : Int) => i) forms.length (scan (faultStep xFault) 0 () forms) := by
  refine iter_scan forms (fun (y : Int) => f23_B2 m forms y) (fun (_ : Unit) (i : Int) => i) _ (fun u k hi => ?_) m 0 () (by omega) (by omega)
  unfold f23_B2
  refine body_turn rfl fun x hx => ?_
  have hw : w64 ((k : Int) + 1) = (k : Int) + 1 := w64_id ⟨by omega, by omega⟩
  simp only [f40_eq m _ (by omega : 31 < m), bnd_some', f32_eq m _ hm, f33, hw, faultStep, xFault]
  by_cases ht : tagsS x.fTags = 0
  · have hb2 : (tagsS x.fTags != 0) = false := by simp [ht]
    rw [hb2, if_neg (by simpa using ht), cnd_false]
    cases wordS x.fForm <;> rfl
  · have hb2 : (tagsS x.fTags != 0) = true := by simpa using ht
    rw [hb2, if_pos ht]; rfl
theorem f24_b2 (m : Nat) (forms : List S41) (hl : forms.length ≤ 300) (hm : 4001 < m) : iter (fun (y : Int) => f24_B2 m forms y) m 0 = landed (fun (_ : Unit) (i : Int) => i) forms.length (scan (faultStep xFault) 0 () forms) := by
  refine iter_scan forms (fun (y : Int) => f24_B2 m forms y) (fun (_ : Unit) (i : Int) => i) _ (fun u k hi => ?_) m 0 () (by omega) (by omega)
  unfold f24_B2
  refine body_turn rfl fun x hx => ?_
  have hw : w64 ((k : Int) + 1) = (k : Int) + 1 := w64_id ⟨by omega, by omega⟩
  simp only [f37_eq m _ (by omega : 31 < m), bnd_some', f16_eq m _ hm, f36, hw, faultStep, xFault]
  by_cases ht : tagsS x.fTags = 0
  · have hb2 : (tagsS x.fTags != 0) = false := by simp [ht]
    rw [hb2, if_neg (by simpa using ht), cnd_false]
    cases wordS x.fForm <;> rfl
  · have hb2 : (tagsS x.fTags != 0) = true := by simpa using ht
    rw [hb2, if_pos ht]; rfl
/-- the program's way: the first base form in whose table all stand -/
theorem f23_in (m : Nat) (p : S23) (forms : List S41) (out : List Int) (i : Int) (bs : List ByteArray) (hm : 10001 < m) (hf : forms.length ≤ 300) (hl : p.fCells.length ≤ 40) (hc : ∀ c ∈ p.fCells, cellOk c) (hw : ∀ b ∈ bs, wordS b = true) (ho : out.length ≤ 40) (hb : bs.length ≤ 10000) :
    ∀ (K k : Nat), k ≤ bs.length → bs.length - k < K → ∃ j, iter (fun (y : (List Int) × Int) => f23_B4 m forms i p bs y.1 y.2) K (out, (k : Int)) = some (.inr (if (bs.drop k).any (stands p forms) then out ++ [i] else out, j))
  | 0, k, h1, h2 => by omega
  | K + 1, k, h1, h2 => by
    unfold iter
    rcases Nat.lt_or_ge k bs.length with hlt | hge
    · have hd := List.drop_eq_getElem_cons hlt
      have hx : idx bs (k : Int) = some bs[k] := by rw [idx_get, List.getElem?_eq_getElem hlt]
      have hwb := hw bs[k] (List.getElem_mem hlt)
      have hw1 : w64 ((k : Int) + 1) = ((k + 1 : Nat) : Int) := by rw [w64_id ⟨by omega, by omega⟩]; omega
      have htl := tabS_len p bs[k]
      have e0 : f23_B4 m forms i p bs out (k : Int) = if stands p forms bs[k] then some (.brk (out ++ [i], (k : Int))) else some (.nxt (out, ((k + 1 : Nat) : Int))) := by
        unfold f23_B4
        rw [decide_eq_true (by omega), hx]
        simp only [cnd_true, bnd_some']
        rw [f34_eq m p bs[k] (by omega) hwb hl hc]
        simp only [bnd_some']
        rw [f47_48 m forms _ (by omega) (by omega) (tab_ok hc _) hm]
        simp only [bnd_some', Bool.not_not]
        have hst : (forms.all fun x => (tabS p bs[k]).any fun c => eqC c x) = stands p forms bs[k] := rfl
        rw [hst]
        cases stands p forms bs[k] with
        | true =>
          rw [cnd_true, app_some 8 out [i] (by simp only [List.length_cons, List.length_nil]; omega) (by simp only [List.length_cons, List.length_nil]; omega)]
          rfl
        | false => rw [cnd_false, hw1]; rfl
      rw [hd]
      simp only [e0, List.any_cons]
      rcases Bool.eq_false_or_eq_true (stands p forms bs[k]) with hs | hs
      · exact ⟨(k : Int), by simp [hs]⟩
      · simp only [hs, Bool.false_eq_true, if_false, Bool.false_or]
        exact f23_in m p forms out i bs hm hf hl hc hw ho hb K (k + 1) hlt (by omega)
    · have hd : bs.drop k = [] := List.drop_eq_nil_iff.2 hge
      have e0 : f23_B4 m forms i p bs out (k : Int) = some (.brk (out, (k : Int))) := by
        unfold f23_B4
        rw [decide_eq_false (by omega)]; rfl
      rw [hd]
      simp only [e0]
      exact ⟨(k : Int), by simp⟩
theorem cls_len (q : S23 → Bool) : ∀ (i : Int) (ps : List S23), (clsS q i ps).length ≤ ps.length
  | _, [] => Nat.le_refl _
  | i, p :: r => by
    have := cls_len q (i + 1) r
    simp only [clsS, List.length_cons]
    split
    · simp only [List.length_cons]; omega
    · omega
theorem f23_b5 (m : Nat) (ps : List S23) (x0 : S41) (fr : List S41) (hm : 10001 < m) (hl : ps.length ≤ 40) (hp : ∀ p ∈ ps, p.fCells.length ≤ 40 ∧ ∀ c ∈ p.fCells, cellOk c) (hf : (x0 :: fr).length ≤ 300) (hw : wordS x0.fForm = true) :
    iter (fun (y : (List Int) × Int) => f23_B5 m ps (x0 :: fr) y.1 y.2) m ([], 0) = some (.inr (clsS (foundB (x0 :: fr)) 0 ps, (ps.length : Int))) := by
  have e : iter (fun (y : (List Int) × Int) => f23_B5 m ps (x0 :: fr) y.1 y.2) m ([], 0) = landed (fun (s : List Int) (i : Int) => (s, i)) ps.length (scan (R := RC) (fun i s p => some (.inr (if foundB (x0 :: fr) p then s ++ [i] else s))) 0 [] ps) := by
    refine iter_scan_ix ps (fun (y : (List Int) × Int) => f23_B5 m ps (x0 :: fr) y.1 y.2) (fun (s : List Int) (i : Int) => (s, i)) _ (fun i s => s.length ≤ i) (fun s k hI hi => ?_) (fun s s' i x hI hx hg => ?_) m 0 [] (by simp) (by omega) (by omega)
    · unfold f23_B5
      refine body_turn rfl fun p hpx => ?_
      have hw1 : w64 ((k : Int) + 1) = (k : Int) + 1 := w64_id ⟨by omega, by omega⟩
      obtain ⟨g1, g2⟩ := hp p (List.mem_of_getElem? hpx)
      have h0 : idx (x0 :: fr) 0 = some x0 := rfl
      have hbs := setS_spec (p.fCells.filterMap (tb x0.fForm x0.fTags))
      have hbl : (compactS (sortS (p.fCells.filterMap (tb x0.fForm x0.fTags)))).length ≤ 40 := by
        have h1 : (compactS (sortS (p.fCells.filterMap (tb x0.fForm x0.fTags)))).length ≤ (sortS (p.fCells.filterMap (tb x0.fForm x0.fTags))).length := by
          unfold compactS Lib.compact Lib.compactUpTo
          rw [List.length_map, List.length_map]
          refine Nat.le_trans (List.length_filter_le _ _) ?_
          rw [List.length_range, List.length_map]
          exact Nat.le_refl _
        have h2 := List.length_filterMap_le (tb x0.fForm x0.fTags) p.fCells
        rw [sortS_length] at h1
        omega
      rw [h0]
      simp only [bnd_some']
      rw [f43c_eq m p x0 fr hm hw g1 g2]
      simp only [bnd_some']
      obtain ⟨j, hj⟩ := f23_in m p (x0 :: fr) s (k : Int) _ hm hf g1 g2 (fun b hb => by
        obtain ⟨c, _, h⟩ := List.mem_filterMap.1 ((hbs.2 b).1 hb)
        exact changeS_word (tb_some.1 h).1) (by omega) (by omega : _ ≤ 10000) m 0 (Nat.zero_le _) (by omega)
      rw [List.drop_zero] at hj
      have hj : iter (fun (y : (List Int) × Int) => f23_B4 m (x0 :: fr) (k : Int) p (compactS (sortS (p.fCells.filterMap (tb x0.fForm x0.fTags)))) y.1 y.2) m (s, 0) = _ := hj
      rw [hj]
      have hq : (compactS (sortS (p.fCells.filterMap (tb x0.fForm x0.fTags)))).any (stands p (x0 :: fr)) = foundB (x0 :: fr) p := by
        rw [Bool.eq_iff_iff, found_prog, foundB_iff]
      rw [hq]
      simp only [brk_inr, f23_j3, hw1]
    · cases hg
      split
      · simp only [List.length_append, List.length_cons, List.length_nil]; omega
      · omega
  rw [e, scan_cls]
  rfl
theorem f23_eq (m : Nat) (ps : List S23) (forms : List S41) (hm : 10001 < m) : f23 m ps forms = some (clsRes ps forms) := by
  unfold f23 clsRes
  by_cases h40 : 40 < ps.length
  · rw [decide_eq_true (by omega), if_pos h40]; rfl
  · rw [decide_eq_false (by omega), if_neg h40, cnd_false, f23_b1 m ps (by omega) (by omega), scan_fault]
    cases hp : firstFault pFault 0 ps with
    | some f => rfl
    | none =>
      simp only [landed, brk_inr, f23_r6]
      by_cases hf : forms.length < 1 ∨ 300 < forms.length
      · have hb : (decide ((forms.length : Int) < 1) || decide ((forms.length : Int) > 300)) = true := by
          simp only [Bool.or_eq_true, decide_eq_true_eq]; omega
        rw [hb, if_pos hf]; rfl
      · have hb : (decide ((forms.length : Int) < 1) || decide ((forms.length : Int) > 300)) = false := by
          simp only [Bool.or_eq_false_iff, decide_eq_false_iff_not]; omega
        rw [hb, if_neg hf, cnd_false, f23_b2 m forms (by omega) (by omega), scan_fault]
        cases hx : firstFault xFault 0 forms with
        | some f => rfl
        | none =>
          simp only [landed, brk_inr]
          obtain ⟨x0, fr, rfl⟩ : ∃ x0 fr, forms = x0 :: fr := by
            cases forms with
            | nil => simp at hf
            | cons x r => exact ⟨x, r, rfl⟩
          obtain ⟨j, hj⟩ := firstFault_none hx x0 List.mem_cons_self
          rw [f23_b5 m ps x0 fr hm (by omega) (fun p hpm => by
            obtain ⟨j, hj⟩ := firstFault_none hp p hpm
            exact ⟨(pFault_none hj).2.1, (pFault_none hj).2.2⟩) (by omega) (xFault_none hj).2]
          rfl
theorem any_all {α : Type} (q : α → Bool) : ∀ l : List α, l.any q = !(l.all fun c => !q c)
  | [] => rfl
  | x :: r => by
    rw [List.any_cons, List.all_cons, any_all q r]
    cases q x <;> simp
theorem f50_eq (m : Nat) (l : List S41) (x : S41) (hl : l.length ≤ 10000) (ht : tagged l) (hx : x.fTags.length ≤ 4) (hm : 10001 < m) : f50 m l x = some (l.any fun c => eqC c x) := by
  unfold f50
  have e : iter (fun (y : Int) => f50_B2 m l x y) m 0 = landed (fun (_ : Unit) (i : Int) => i) l.length (scan (R := Bool) (fun _ (_ : Unit) c => if !eqC c x then some (.inr ()) else some (.inl true)) 0 () l) := by
    refine iter_scan l (fun (y : Int) => f50_B2 m l x y) (fun (_ : Unit) (i : Int) => i) _ (fun u k hi => ?_) m 0 () (by omega) (by omega)
    unfold f50_B2
    refine body_turn rfl fun c hc => ?_
    have hw : w64 ((k : Int) + 1) = (k : Int) + 1 := w64_id ⟨by omega, by omega⟩
    have h4 := ht c (List.mem_of_getElem? hc)
    obtain ⟨r, hr, hr2⟩ := f71_eq m c.fTags x.fTags (by omega) (by omega) hm
    simp only [tl_eq, hr, bnd_some', hr2, f50_r1, hw, eqC]
    by_cases e1 : c.fForm = x.fForm <;> by_cases e2 : c.fTags = x.fTags <;> simp [e1, e2]
  rw [e, scan_all]
  have hany := any_all (fun c => eqC c x) l
  rw [hany]
  cases l.all fun c => !eqC c x <;> rfl
theorem foldl_any' {α : Type} (q : α → Bool) : ∀ (l : List α) (s : Bool), l.foldl (fun (s : Bool) (x : α) => s || q x) s = (s || l.any q)
  | [], s => by simp
  | x :: r, s => by simp only [List.foldl_cons, foldl_any' q r, List.any_cons, Bool.or_assoc]
theorem foldl_all {α : Type} (q : α → Bool) : ∀ (l : List α) (s : Bool), l.foldl (fun (s : Bool) (x : α) => s && q x) s = (s && l.all q)
  | [], s => by simp
  | x :: r, s => by simp only [List.foldl_cons, foldl_all q r, List.all_cons, Bool.and_assoc]
theorem f24_b5 (m : Nat) (forms l : List S41) (hf : forms.length ≤ 300) (hl : l.length ≤ 10000) (ht : tagged l) (hx : tagged forms) (hm : 10001 < m) : iter (fun (y : Bool × Int) => f24_B5 m forms l y.1 y.2) m (true, 0) = some (.inr (forms.all (fun x => l.any fun c => eqC c x), (forms.length : Int))) := by
  have e : iter (fun (y : Bool × Int) => f24_B5 m forms l y.1 y.2) m (true, 0) = landed (fun (s : Bool) (i : Int) => (s, i)) forms.length (scan (R := RC) (fun _ s x => some (.inr (s && l.any fun c => eqC c x))) 0 true forms) := by
    refine iter_scan forms (fun (y : Bool × Int) => f24_B5 m forms l y.1 y.2) (fun (s : Bool) (i : Int) => (s, i)) _ (fun s k hi => ?_) m 0 true (by omega) (by omega)
    unfold f24_B5
    refine body_turn rfl fun x hxx => ?_
    have hw : w64 ((k : Int) + 1) = (k : Int) + 1 := w64_id ⟨by omega, by omega⟩
    rw [f50_eq m l x hl ht (hx x (List.mem_of_getElem? hxx)) hm]
    simp only [f24_r4, hw]
    cases s <;> rfl
  rw [e, scan_fold (fun (s : Bool) (x : S41) => s && l.any fun c => eqC c x), foldl_all]
  rfl
theorem f24_b7 (m : Nat) (p : S23) (forms : List S41) (bs : List ByteArray) (hm : 10001 < m) (hf : forms.length ≤ 300) (hx : tagged forms) (hl : p.fCells.length ≤ 40) (hc : ∀ c ∈ p.fCells, cellOk c) (hw : ∀ b ∈ bs, wordS b = true) (hb : bs.length ≤ 10000) :
    iter (fun (y : Bool × Int) => f24_B7 m forms p bs y.1 y.2) m (false, 0) = some (.inr (bs.any (stands p forms), (bs.length : Int))) := by
  have e : iter (fun (y : Bool × Int) => f24_B7 m forms p bs y.1 y.2) m (false, 0) = landed (fun (s : Bool) (i : Int) => (s, i)) bs.length (scan (R := RC) (fun _ s b => some (.inr (s || stands p forms b))) 0 false bs) := by
    refine iter_scan bs (fun (y : Bool × Int) => f24_B7 m forms p bs y.1 y.2) (fun (s : Bool) (i : Int) => (s, i)) _ (fun s k hi => ?_) m 0 false (by omega) (by omega)
    unfold f24_B7
    refine body_turn rfl fun b hbb => ?_
    have hw1 : w64 ((k : Int) + 1) = (k : Int) + 1 := w64_id ⟨by omega, by omega⟩
    have hwb := hw b (List.mem_of_getElem? hbb)
    have hsz : b.size ≤ 120 := by
      obtain ⟨_, _, _, _, h, _⟩ := wordS_spec hwb
      exact h
    have htl := tabS_len p b
    rw [f18_eq m p b (by omega) hsz hl hc]
    simp only [bnd_some']
    rw [f24_b5 m forms _ hf (by omega) (tab_ok hc _) hx hm]
    simp only [brk_inr, f24_r6, hw1]
    rfl
  rw [e, scan_fold (fun (s : Bool) (b : ByteArray) => s || stands p forms b), foldl_any']
  rfl
theorem f24_b9 (m : Nat) (ps : List S23) (forms : List S41) (hm : 20000 < m) (hl : ps.length ≤ 40) (hp : ∀ p ∈ ps, p.fCells.length ≤ 40 ∧ ∀ c ∈ p.fCells, cellOk c) (h1 : 1 ≤ forms.length) (hf : forms.length ≤ 300) (hx : ∀ x ∈ forms, x.fTags.length ≤ 4 ∧ wordS x.fForm = true) :
    iter (fun (y : (List Int) × Int) => f24_B9 m ps forms y.1 y.2) m ([], 0) = some (.inr (clsS (foundB forms) 0 ps, (ps.length : Int))) := by
  have e : iter (fun (y : (List Int) × Int) => f24_B9 m ps forms y.1 y.2) m ([], 0) = landed (fun (s : List Int) (i : Int) => (s, i)) ps.length (scan (R := RC) (fun i s p => some (.inr (if foundB forms p then s ++ [i] else s))) 0 [] ps) := by
    refine iter_scan_ix ps (fun (y : (List Int) × Int) => f24_B9 m ps forms y.1 y.2) (fun (s : List Int) (i : Int) => (s, i)) _ (fun i s => s.length ≤ i) (fun s k hI hi => ?_) (fun s s' i x hI hxx hg => ?_) m 0 [] (by simp) (by omega) (by omega)
    · unfold f24_B9
      refine body_turn rfl fun p hpx => ?_
      have hw1 : w64 ((k : Int) + 1) = (k : Int) + 1 := w64_id ⟨by omega, by omega⟩
      obtain ⟨g1, g2⟩ := hp p (List.mem_of_getElem? hpx)
      have hwl : w64 ((forms.length : Int) - 1) = ((forms.length - 1 : Nat) : Int) := by rw [w64_id ⟨by omega, by omega⟩]; omega
      have h0 : idx forms ((forms.length - 1 : Nat) : Int) = some (forms[forms.length - 1]'(by omega)) := by rw [idx_get, List.getElem?_eq_getElem (by omega)]
      rw [hwl, h0]
      have hmem : forms[forms.length - 1]'(by omega) ∈ forms := List.getElem_mem _
      generalize forms[forms.length - 1]'(by omega) = xl at hmem
      obtain ⟨_, hwx⟩ := hx xl hmem
      have hsz : xl.fForm.size ≤ 120 := by
        obtain ⟨_, _, _, _, h, _⟩ := wordS_spec hwx
        exact h
      simp only [bnd_some']
      rw [f21_eq m p xl.fForm hm hsz g1 g2]
      simp only [bnd_some']
      have hbl := bases_small (p := p) g1 hwx
      rw [f24_b7 m p forms _ (by omega) hf (fun x hx' => (hx x hx').1) g1 g2 (fun b hb => bases_word hwx hb) (by omega)]
      have hq : (basesRef p xl.fForm).any (stands p forms) = foundB forms p := by
        rw [Bool.eq_iff_iff, found_ref p forms xl hmem hwx, foundB_iff]
      rw [hq]
      simp only [brk_inr]
      cases foundB forms p with
      | true =>
        rw [cnd_true, app_some 8 s [(k : Int)] (by simp only [List.length_cons, List.length_nil]; omega) (by simp only [List.length_cons, List.length_nil]; omega)]
        simp only [bnd_some', f24_j8, f24_j3, hw1]
        rfl
      | false =>
        simp only [cnd_false, f24_j8, f24_j3, hw1]
        rfl
    · cases hg
      split
      · simp only [List.length_append, List.length_cons, List.length_nil]; omega
      · omega
  rw [e, scan_cls]
  rfl
theorem f24_eq (m : Nat) (ps : List S23) (forms : List S41) (hm : 20000 < m) : f24 m ps forms = some (clsRes ps forms) := by
  unfold f24 clsRes
  by_cases h40 : 40 < ps.length
  · rw [decide_eq_true (by omega), if_pos h40]; rfl
  · rw [decide_eq_false (by omega), if_neg h40, cnd_false, f24_b1 m ps (by omega) (by omega), scan_fault]
    cases hp : firstFault pFault 0 ps with
    | some f => rfl
    | none =>
      simp only [landed, brk_inr, f24_r10]
      by_cases hf : forms.length < 1 ∨ 300 < forms.length
      · have hb : (((forms.length : Int) == 0) || decide ((forms.length : Int) > 300)) = true := by
          simp only [Bool.or_eq_true, decide_eq_true_eq, beq_iff_eq]; omega
        rw [hb, if_pos hf]; rfl
      · have hb : (((forms.length : Int) == 0) || decide ((forms.length : Int) > 300)) = false := by
          simp only [Bool.or_eq_false_iff, decide_eq_false_iff_not, beq_eq_false_iff_ne, ne_eq]; omega
        rw [hb, if_neg hf, cnd_false, f24_b2 m forms (by omega) (by omega), scan_fault]
        cases hx : firstFault xFault 0 forms with
        | some f => rfl
        | none =>
          simp only [landed, brk_inr]
          rw [f24_b9 m ps forms hm (by omega) (fun p hpm => by
            obtain ⟨j, hj⟩ := firstFault_none hp p hpm
            exact ⟨(pFault_none hj).2.1, (pFault_none hj).2.2⟩) (by omega) (by omega) (fun x hxm => by
            obtain ⟨j, hj⟩ := firstFault_none hx x hxm
            exact xFault_none hj)]
          rfl
theorem f25_refl (m : Nat) (l : List Int) (hl : l.length ≤ 10000) (hm : 10001 < m) : f25 m l l = some true := by
  unfold f25
  have hb : ((l.length : Int) != (l.length : Int)) = false := by simp
  rw [hb, cnd_false]
  have e : iter (fun (y : Int) => f25_B1 m l l y) m 0 = landed (fun (_ : Unit) (i : Int) => i) l.length (scan (R := Bool) (fun _ (_ : Unit) x => if true then some (.inr ()) else some (.inl false)) 0 () l) := by
    refine iter_scan l (fun (y : Int) => f25_B1 m l l y) (fun (_ : Unit) (i : Int) => i) _ (fun u k hi => ?_) m 0 () (by omega) (by omega)
    unfold f25_B1
    refine body_turn rfl fun x hx => ?_
    have hw : w64 ((k : Int) + 1) = (k : Int) + 1 := w64_id ⟨by omega, by omega⟩
    rw [idx_get, hx]
    simp [hw]
  rw [e, scan_all (fun _ => true)]
  simp [landed]
theorem clsRes_len (ps : List S23) (forms : List S41) : (clsRes ps forms).1.length ≤ 40 := by
  unfold clsRes
  split
  · simp
  · split
    · simp
    · split
      · simp
      · split
        · simp
        · have := cls_len (foundB forms) 0 ps
          simp only
          omega
theorem plain7 (ps : List S23) (forms : List S41) : f7 30000 ps forms = some true := by
  unfold f7
  rw [f23_eq _ ps forms (by decide), f24_eq _ ps forms (by decide)]
  have h1 : (((clsRes ps forms).2.fCode == (clsRes ps forms).2.fCode) && (((clsRes ps forms).2.fIndex == (clsRes ps forms).2.fIndex) && true)) = true := by simp
  have hl := clsRes_len ps forms
  simp only [f22, bnd_some', Bool.not_true, cnd_false, h1, cnd_true]
  rw [f25_refl 30000 _ (by omega) (by decide)]
  rfl
/-! ### with one word more -/
theorem found_less {forms : List S41} {x : S41} {p : S23} (h : foundB (forms ++ [x]) p = true) : foundB forms p = true := by
  rw [foundB_iff] at h ⊢
  obtain ⟨b, hb, hs⟩ := h
  refine ⟨b, hb, ?_⟩
  unfold stands at hs ⊢
  rw [List.all_append, Bool.and_eq_true] at hs
  exact hs.1
theorem cls_ge (q : S23 → Bool) : ∀ (i : Int) (ps : List S23), ∀ j ∈ clsS q i ps, i ≤ j
  | _, [], j, h => by cases h
  | i, p :: r, j, h => by
    simp only [clsS] at h
    split at h
    · rcases List.mem_cons.1 h with rfl | h
      · exact Int.le_refl _
      · have := cls_ge q (i + 1) r j h; omega
    · have := cls_ge q (i + 1) r j h; omega
theorem clsRes_cases (ps : List S23) (forms : List S41) : ((clsRes ps forms).2.fCode ≠ 0) ∨ (clsRes ps forms = (clsS (foundB forms) 0 ps, ⟨0, 0⟩) ∧ ps.length ≤ 40) := by
  unfold clsRes
  split
  · exact .inl (by show (2 : Int) ≠ 0; decide)
  · split
    · rename_i f hf
      obtain ⟨j, x, hx⟩ := firstFault_some hf
      unfold pFault at hx
      split at hx
      · rename_i hn; cases hx; exact .inl hn
      · cases hx
    · split
      · exact .inl (by show (9 : Int) ≠ 0; decide)
      · split
        · rename_i f hf
          obtain ⟨j, x, hx⟩ := firstFault_some hf
          unfold xFault at hx
          split at hx
          · rename_i hn; cases hx; exact .inl hn
          · split at hx
            · cases hx
            · cases hx; exact .inl (by show (5 : Int) ≠ 0; decide)
        · exact .inr ⟨rfl, by omega⟩
end Go.Abs
