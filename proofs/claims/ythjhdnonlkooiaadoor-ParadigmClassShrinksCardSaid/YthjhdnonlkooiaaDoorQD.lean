import Derived.Test.YthjhdnonlkooiaaDoorQC
import Derived.Test.YthjhdnonlkooiaaDoorQ6T
namespace Go.Abs
set_option linter.unusedVariables false
/-! ### the classes of words -/
abbrev RC := List Int × S27
def pFault (i : Int) (p : S23) : Option S27 := if (faultS p).fCode ≠ 0 then some ⟨(faultS p).fCode, i⟩ else none
def xFault (i : Int) (x : S41) : Option S27 := if tagsS x.fTags ≠ 0 then some ⟨tagsS x.fTags, i⟩ else if wordS x.fForm then none else some ⟨5, i⟩
def faultStep {α : Type} (g : Int → α → Option S27) (i : Int) (_ : Unit) (x : α) : Option (RC ⊕ Unit) := match g i x with
  | some f => some (.inl ([], f))
  | none => some (.inr ())
theorem scan_fault {α : Type} (g : Int → α → Option S27) : ∀ (xs : List α) (i : Int), scan (faultStep g) i () xs = match firstFault g i xs with
    | some f => some (.inl ([], f))
    | none => some (.inr ())
  | [], i => rfl
  | x :: r, i => by
    simp only [scan, firstFault, faultStep]
    cases hg : g i x with
    | some f => rfl
    | none => exact scan_fault g r (i + 1)
/-- the numbers of those that are found -/
def clsS (q : S23 → Bool) : Int → List S23 → List Int
  | _, [] => []
  | i, p :: r => if q p then i :: clsS q (i + 1) r else clsS q (i + 1) r
theorem scan_cls {R : Type} (q : S23 → Bool) : ∀ (ps : List S23) (i : Int) (s : List Int), scan (R := R) (fun i s p => some (.inr (if q p then s ++ [i] else s))) i s ps = some (.inr (s ++ clsS q i ps))
  | [], i, s => by simp [scan, clsS]
  | p :: r, i, s => by
    simp only [scan, clsS]
    cases q p with
    | true => simp only [if_true]; rw [scan_cls q r]; simp
    | false => simp only [Bool.false_eq_true, if_false]; exact scan_cls q r (i + 1) s
noncomputable def foundB (forms : List S41) (p : S23) : Bool := @decide (found forms p) (Classical.propDecidable _)
theorem foundB_iff {forms : List S41} {p : S23} : foundB forms p = true ↔ found forms p := by unfold foundB; exact @decide_eq_true_iff _ (Classical.propDecidable _)
noncomputable def clsRes (ps : List S23) (forms : List S41) : RC :=
  if 40 < ps.length then ([], ⟨2, -1⟩) else match firstFault pFault 0 ps with
    | some f => ([], f)
    | none => if forms.length < 1 ∨ 300 < forms.length then ([], ⟨9, -2⟩) else match firstFault xFault 0 forms with
      | some f => ([], f)
      | none => (clsS (foundB forms) 0 ps, ⟨0, 0⟩)
theorem pFault_none {i : Int} {p : S23} (h : pFault i p = none) : faultS p = ⟨0, 0⟩ ∧ p.fCells.length ≤ 40 ∧ ∀ c ∈ p.fCells, cellOk c := by
  unfold pFault at h
  split at h
  · cases h
  · rename_i hn
    rcases faultS_cases p with ⟨h1, h2, _, _, h5⟩ | h'
    · exact ⟨h1, h2, h5⟩
    · exact absurd h' (by simpa using hn)
theorem xFault_none {i : Int} {x : S41} (h : xFault i x = none) : x.fTags.length ≤ 4 ∧ wordS x.fForm = true := by
  unfold xFault at h
  split at h
  · cases h
  · rename_i ht
    split at h
    · rename_i hw
      refine ⟨?_, hw⟩
      rcases Nat.lt_or_ge 4 x.fTags.length with hl | hl
      · exfalso
        have : tagsS x.fTags = 2 := by unfold tagsS; rw [if_pos hl]
        omega
      · exact hl
    · cases h
theorem pFault_step (m : Nat) (p : S23) (i : Int) (hm : 4001 < m) : (cnd (!((faultS p).fCode == 0 && ((faultS p).fIndex == 0 && true))) (some (some (⟨(faultS p).fCode, i⟩ : S27))) (some none)) = some (pFault i p) := by
  unfold pFault
  rcases faultS_cases p with ⟨h1, _⟩ | h
  · rw [h1]; rfl
  · have hb : ((faultS p).fCode == 0) = false := by simpa using h
    rw [hb, if_pos h]; rfl
theorem f23_b1 (m : Nat) (ps : List S23) (hl : ps.length ≤ 40) (hm : 4001 < m) : iter (fun (y : Int) => f23_B1 m ps y) m 0 = landed (fun (_ : Unit) (i : Int) => i) ps.length (scan (faultStep pFault) 0 () ps) := by
  refine iter_scan ps (fun (y : Int) => f23_B1 m ps y) (fun (_ : Unit) (i : Int) => i) _ (fun u k hi => ?_) m 0 () (by omega) (by omega)
  unfold f23_B1
  refine body_turn rfl fun x hx => ?_
  have hw : w64 ((k : Int) + 1) = (k : Int) + 1 := w64_id ⟨by omega, by omega⟩
  simp only [f15_eq m x hm, bnd_some', f33, hw, faultStep, pFault]
  rcases faultS_cases x with ⟨h1, _⟩ | h
  · rw [h1]; rfl
  · have hb : ((faultS x).fCode == 0) = false := by simpa using h
    rw [hb, if_pos h]; rfl
theorem f23_b2 (m : Nat) (forms : List S41) (hl : forms.length ≤ 300) (hm : 4001 < m) : iter (fun (y : Int) => f23_B2 m forms y) m 0 = landed (fun (_ : Unit) (i : Int) => i) forms.length (scan (faultStep xFault) 0 () forms) := by
  refine iter_scan forms (fun (y : Int) => f23_B2 m forms y) (fun (_ : Unit) (i : Int) => i) _ (fun u k hi => ?_) m 0 () (by omega) (by omega)
  unfold f23_B2
  refine body_turn rfl fun x hx => ?_
  have hw : w64 ((k : Int) + 1) = (k : Int) + 1 := w64_id ⟨by omega, by omega⟩
  simp only [f40_eq m _ (by omega : 31 < m), bnd_some', f32_eq m _ hm, f33, hw, faultStep, xFault]
  by_cases ht : tagsS x.fTags = 0
  · have hb2 : (tagsS x.fTags != 0) = false := by simp [ht]
    rw [hb2, if_neg (by simpa using ht), cnd_false]
    cases wordS x.fForm <;> rfl
  · have hb2 : (tagsS x.fTags != 0) = true := by simpa using ht
    rw [hb2, if_pos ht]; rfl
/-- the program's way: the first base form in whose table all stand -/
theorem f23_in (m : Nat) (p : S23) (forms : List S41) (out : List Int) (i : Int) (bs : List ByteArray) (hm : 10001 < m) (hf : forms.length ≤ 300) (hl : p.fCells.length ≤ 40) (hc : ∀ c ∈ p.fCells, cellOk c) (hw : ∀ b ∈ bs, wordS b = true) (ho : out.length ≤ 40) (hb : bs.length ≤ 10000) :
    ∀ (K k : Nat), k ≤ bs.length → bs.length - k < K → ∃ j, iter (fun (y : (List Int) × Int) => f23_B4 m forms i p bs y.1 y.2) K (out, (k : Int)) = some (.inr (if (bs.drop k).any (stands p forms) then out ++ [i] else out, j))
  | 0, k, h1, h2 => by omega
  | K + 1, k, h1, h2 => by
    unfold iter
    rcases Nat.lt_or_ge k bs.length with hlt | hge
    · have hd := List.drop_eq_getElem_cons hlt
      have hx : idx bs (k : Int) = some bs[k] := by rw [idx_get, List.getElem?_eq_getElem hlt]
      have hwb := hw bs[k] (List.getElem_mem hlt)
      have hw1 : w64 ((k : Int) + 1) = ((k + 1 : Nat) : Int) := by rw [w64_id ⟨by omega, by omega⟩]; omega
      have htl := tabS_len p bs[k]
      have e0 : f23_B4 m forms i p bs out (k : Int) = if stands p forms bs[k] then some (.brk (out ++ [i], (k : Int))) else some (.nxt (out, ((k + 1 : Nat) : Int))) := by
        unfold f23_B4
        rw [decide_eq_true (by omega), hx]
        simp only [cnd_true, bnd_some']
        rw [f34_eq m p bs[k] (by omega) hwb hl hc]
        simp only [bnd_some']
        rw [f47_48 m forms _ (by omega) (by omega) (tab_ok hc _) hm]
        simp only [bnd_some', Bool.not_not]
        have hst : (forms.all fun x => (tabS p bs[k]).any fun c => eqC c x) = stands p forms bs[k] := rfl
        rw [hst]
        cases stands p forms bs[k] with
        | true =>
          rw [cnd_true, app_some 8 out [i] (by simp only [List.length_cons, List.length_nil]; omega) (by simp only [List.length_cons, List.length_nil]; omega)]
          rfl
        | false => rw [cnd_false, hw1]; rfl
      rw [hd]
      simp only [e0, List.any_cons]
      rcases Bool.eq_false_or_eq_true (stands p forms bs[k]) with hs | hs
      · exact ⟨(k : Int), by simp [hs]⟩
      · simp only [hs, Bool.false_eq_true, if_false, Bool.false_or]
        exact f23_in m p forms out i bs hm hf hl hc hw ho hb K (k + 1) hlt (by omega)
    · have hd : bs.drop k = [] := List.drop_eq_nil_iff.2 hge
      have e0 : f23_B4 m forms i p bs out (k : Int) = some (.brk (out, (k : Int))) := by
        unfold f23_B4
        rw [decide_eq_false (by omega)]; rfl
      rw [hd]
      simp only [e0]
      exact ⟨(k : Int), by simp⟩
theorem cls_len (q : S23 → Bool) : ∀ (i : Int) (ps : List S23), (clsS q i ps).length ≤ ps.length
  | _, [] => Nat.le_refl _
  | i, p :: r => by
    have := cls_len q (i + 1) r
    simp only [clsS, List.length_cons]
    split
    · simp only [List.length_cons]; omega
    · omega
theorem f23_b5 (m : Nat) (ps : List S23) (x0 : S41) (fr : List S41) (hm : 10001 < m) (hl : ps.length ≤ 40) (hp : ∀ p ∈ ps, p.fCells.length ≤ 40 ∧ ∀ c ∈ p.fCells, cellOk c) (hf : (x0 :: fr).length ≤ 300) (hw : wordS x0.fForm = true) :
    iter (fun (y : (List Int) × Int) => f23_B5 m ps (x0 :: fr) y.1 y.2) m ([], 0) = some (.inr (clsS (foundB (x0 :: fr)) 0 ps, (ps.length : Int))) := by
  have e : iter (fun (y : (List Int) × Int) => f23_B5 m ps (x0 :: fr) y.1 y.2) m ([], 0) = landed (fun (s : List Int) (i : Int) => (s, i)) ps.length (scan (R := RC) (fun i s p => some (.inr (if foundB (x0 :: fr) p then s ++ [i] else s))) 0 [] ps) := by
    refine iter_scan_ix ps (fun (y : (List Int) × Int) => f23_B5 m ps (x0 :: fr) y.1 y.2) (fun (s : List Int) (i : Int) => (s, i)) _ (fun i s => s.length ≤ i) (fun s k hI hi => ?_) (fun s s' i x hI hx hg => ?_) m 0 [] (by simp) (by omega) (by omega)
    · unfold f23_B5
      refine body_turn rfl fun p hpx => ?_
      have hw1 : w64 ((k : Int) + 1) = (k : Int) + 1 := w64_id ⟨by omega, by omega⟩
      obtain ⟨g1, g2⟩ := hp p (List.mem_of_getElem? hpx)
      have h0 : idx (x0 :: fr) 0 = some x0 := rfl
      have hbs := setS_spec (p.fCells.filterMap (tb x0.fForm x0.fTags))
      have hbl : (compactS (sortS (p.fCells.filterMap (tb x0.fForm x0.fTags)))).length ≤ 40 := by
        have h1 : (compactS (sortS (p.fCells.filterMap (tb x0.fForm x0.fTags)))).length ≤ (sortS (p.fCells.filterMap (tb x0.fForm x0.fTags))).length := by
          unfold compactS Lib.compact Lib.compactUpTo
          rw [List.length_map, List.length_map]
          refine Nat.le_trans (List.length_filter_le _ _) ?_
          rw [List.length_range, List.length_map]
          exact Nat.le_refl _
        have h2 := List.length_filterMap_le (tb x0.fForm x0.fTags) p.fCells
        rw [sortS_length] at h1
        omega
      rw [h0]
      simp only [bnd_some']
      rw [f43c_eq m p x0 fr hm hw g1 g2]
      simp only [bnd_some']
      obtain ⟨j, hj⟩ := f23_in m p (x0 :: fr) s (k : Int) _ hm hf g1 g2 (fun b hb => by
        obtain ⟨c, _, h⟩ := List.mem_filterMap.1 ((hbs.2 b).1 hb)
        exact changeS_word (tb_some.1 h).1) (by omega) (by omega : _ ≤ 10000) m 0 (Nat.zero_le _) (by omega)
      rw [List.drop_zero] at hj
      have hj : iter (fun (y : (List Int) × Int) => f23_B4 m (x0 :: fr) (k : Int) p (compactS (sortS (p.fCells.filterMap (tb x0.fForm x0.fTags)))) y.1 y.2) m (s, 0) = _ := hj
      rw [hj]
      have hq : (compactS (sortS (p.fCells.filterMap (tb x0.fForm x0.fTags)))).any (stands p (x0 :: fr)) = foundB (x0 :: fr) p := by
        rw [Bool.eq_iff_iff, found_prog, foundB_iff]
      rw [hq]
      simp only [brk_inr, f23_j3, hw1]
    · cases hg
      split
      · simp only [List.length_append, List.length_cons, List.length_nil]; omega
      · omega
  rw [e, scan_cls]
  rfl
theorem f23_eq (m : Nat) (ps : List S23) (forms : List S41) (hm : 10001 < m) : f23 m ps forms = some (clsRes ps forms) := by
  unfold f23 clsRes
  by_cases h40 : 40 < ps.length
  · rw [decide_eq_true (by omega), if_pos h40]; rfl
  · rw [decide_eq_false (by omega), if_neg h40, cnd_false, f23_b1 m ps (by omega) (by omega), scan_fault]
    cases hp : firstFault pFault 0 ps with
    | some f => rfl
    | none =>
      simp only [landed, brk_inr, f23_r6]
      by_cases hf : forms.length < 1 ∨ 300 < forms.length
      · have hb : (decide ((forms.length : Int) < 1) || decide ((forms.length : Int) > 300)) = true := by
          simp only [Bool.or_eq_true, decide_eq_true_eq]; omega
        rw [hb, if_pos hf]; rfl
      · have hb : (decide ((forms.length : Int) < 1) || decide ((forms.length : Int) > 300)) = false := by
          simp only [Bool.or_eq_false_iff, decide_eq_false_iff_not]; omega
        rw [hb, if_neg hf, cnd_false, f23_b2 m forms (by omega) (by omega), scan_fault]
        cases hx : firstFault xFault 0 forms with
        | some f => rfl
        | none =>
          simp only [landed, brk_inr]
          obtain ⟨x0, fr, rfl⟩ : ∃ x0 fr, forms = x0 :: fr := by
            cases forms with
            | nil => simp at hf
            | cons x r => exact ⟨x, r, rfl⟩
          obtain ⟨j, hj⟩ := firstFault_none hx x0 List.mem_cons_self
          rw [f23_b5 m ps x0 fr hm (by omega) (fun p hpm => by
            obtain ⟨j, hj⟩ := firstFault_none hp p hpm
            exact ⟨(pFault_none hj).2.1, (pFault_none hj).2.2⟩) (by omega) (xFault_none hj).2]
          rfl
theorem any_all {α : Type} (q : α → Bool) : ∀ l : List α, l.any q = !(l.all fun c => !q c)
  | [] => rfl
  | x :: r => by
    rw [List.any_cons, List.all_cons, any_all q r]
    cases q x <;> simp
theorem foldl_any' {α : Type} (q : α → Bool) : ∀ (l : List α) (s : Bool), l.foldl (fun (s : Bool) (x : α) => s || q x) s = (s || l.any q)
  | [], s => by simp
  | x :: r, s => by simp only [List.foldl_cons, foldl_any' q r, List.any_cons, Bool.or_assoc]
theorem foldl_all {α : Type} (q : α → Bool) : ∀ (l : List α) (s : Bool), l.foldl (fun (s : Bool) (x : α) => s && q x) s = (s && l.all q)
  | [], s => by simp
  | x :: r, s => by simp only [List.foldl_cons, foldl_all q r, List.all_cons, Bool.and_assoc]
theorem clsRes_len (ps : List S23) (forms : List S41) : (clsRes ps forms).1.length ≤ 40 := by
  unfold clsRes
  split
  · simp
  · split
    · simp
    · split
      · simp
      · split
        · simp
        · have := cls_len (foundB forms) 0 ps
          simp only
          omega
/-! ### with one word more -/
theorem found_less {forms : List S41} {x : S41} {p : S23} (h : foundB (forms ++ [x]) p = true) : foundB forms p = true := by
  rw [foundB_iff] at h ⊢
  obtain ⟨b, hb, hs⟩ := h
  refine ⟨b, hb, ?_⟩
  unfold stands at hs ⊢
  rw [List.all_append, Bool.and_eq_true] at hs
  exact hs.1
theorem cls_ge (q : S23 → Bool) : ∀ (i : Int) (ps : List S23), ∀ j ∈ clsS q i ps, i ≤ j
  | _, [], j, h => by cases h
  | i, p :: r, j, h => by
    simp only [clsS] at h
    split at h
    · rcases List.mem_cons.1 h with rfl | h
      · exact Int.le_refl _
      · have := cls_ge q (i + 1) r j h; omega
    · have := cls_ge q (i + 1) r j h; omega
theorem f8_loop (m : Nat) (l : List Int) (fl fm : S27) (M : List Int) (q q' : S23 → Bool) (hq : ∀ p, q' p = true → q p = true) (hM : M.length ≤ 10000) (hl : l.length ≤ 10000) :
    ∀ (ps : List S23) (i : Int) (K k at' : Nat), l.drop k = clsS q i ps → M.drop at' = clsS q' i ps → at' ≤ M.length → k ≤ l.length → l.length - k < K → iter (fun (y : Int × Int) => f8_B4 m (l, fl) (M, fm) y.1 y.2) K ((at' : Int), (k : Int)) = some (.inr ((M.length : Int), (l.length : Int)))
  | [], i, 0, k, at', _, _, _, _, h => by omega
  | [], i, K + 1, k, at', h1, h2, h3, h4, h5 => by
    have hk : k = l.length := by have := List.drop_eq_nil_iff.1 h1; omega
    have ha : at' = M.length := by have := List.drop_eq_nil_iff.1 h2; omega
    unfold iter
    have e0 : f8_B4 m (l, fl) (M, fm) (at' : Int) (k : Int) = some (.brk ((at' : Int), (k : Int))) := by
      unfold f8_B4
      rw [decide_eq_false (by simp only; omega)]; rfl
    simp only [e0]
    rw [hk, ha]
  | p :: r, i, K, k, at', h1, h2, h3, h4, h5 => by
    simp only [clsS] at h1 h2
    cases hp : q p with
    | false =>
      have hp' : q' p = false := by
        cases h : q' p with
        | false => rfl
        | true => rw [hq p h] at hp; cases hp
      simp only [hp, hp', Bool.false_eq_true, if_false] at h1 h2
      exact f8_loop m l fl fm M q q' hq hM hl r (i + 1) K k at' h1 h2 h3 h4 h5
    | true =>
      simp only [hp, if_true] at h1
      have hlt : k < l.length := by
        rcases Nat.lt_or_ge k l.length with h | h
        · exact h
        · rw [List.drop_eq_nil_iff.2 h] at h1; cases h1
      have hd := List.drop_eq_getElem_cons hlt
      rw [hd] at h1
      obtain ⟨g1, g2⟩ := List.cons.inj h1
      cases K with
      | zero => omega
      | succ K =>
        have hx : idx l (k : Int) = some l[k] := by rw [idx_get, List.getElem?_eq_getElem hlt]
        have hw : w64 ((k : Int) + 1) = ((k + 1 : Nat) : Int) := by rw [w64_id ⟨by omega, by omega⟩]; omega
        have hwa : w64 ((at' : Int) + 1) = ((at' + 1 : Nat) : Int) := by rw [w64_id ⟨by omega, by omega⟩]; omega
        unfold iter
        cases hp' : q' p with
        | true =>
          simp only [hp', if_true] at h2
          have hla : at' < M.length := by
            rcases Nat.lt_or_ge at' M.length with h | h
            · exact h
            · rw [List.drop_eq_nil_iff.2 h] at h2; cases h2
          have hda := List.drop_eq_getElem_cons hla
          rw [hda] at h2
          obtain ⟨g3, g4⟩ := List.cons.inj h2
          have hxa : idx M (at' : Int) = some M[at'] := by rw [idx_get, List.getElem?_eq_getElem hla]
          have e0 : f8_B4 m (l, fl) (M, fm) (at' : Int) (k : Int) = some (.nxt (((at' + 1 : Nat) : Int), ((k + 1 : Nat) : Int))) := by
            unfold f8_B4
            simp only
            rw [decide_eq_true (by omega : (k : Int) < (l.length : Int)), hx, decide_eq_true (by omega : (at' : Int) < (M.length : Int)), hxa]
            have : (M[at'] == l[k]) = true := by rw [g1, g3]; simp
            simp only [cnd_true, bnd_some', this, f8_r3, f8_j2, f8_j1, hw, hwa]
          simp only [e0]
          exact f8_loop m l fl fm M q q' hq hM hl r (i + 1) K (k + 1) (at' + 1) g2 g4 hla hlt (by omega)
        | false =>
          simp only [hp', Bool.false_eq_true, if_false] at h2
          have e0 : f8_B4 m (l, fl) (M, fm) (at' : Int) (k : Int) = some (.nxt ((at' : Int), ((k + 1 : Nat) : Int))) := by
            unfold f8_B4
            simp only
            rw [decide_eq_true (by omega : (k : Int) < (l.length : Int)), hx]
            rcases Nat.lt_or_ge at' M.length with hla | hla
            · have hxa : idx M (at' : Int) = some M[at'] := by rw [idx_get, List.getElem?_eq_getElem hla]
              have hda := List.drop_eq_getElem_cons hla
              have hge := cls_ge q' (i + 1) r M[at'] (by rw [← h2, hda]; exact List.mem_cons_self)
              have : (M[at'] == l[k]) = false := by rw [g1]; simp; omega
              rw [decide_eq_true (by omega : (at' : Int) < (M.length : Int)), hxa]
              simp only [cnd_true, bnd_some', this, f8_r3, f8_j2, f8_j1, hw, cnd_false]
            · rw [decide_eq_false (by omega : ¬ (at' : Int) < (M.length : Int))]
              simp only [cnd_true, cnd_false, bnd_some', f8_r3, f8_j2, f8_j1, hw]
          simp only [e0]
          exact f8_loop m l fl fm M q q' hq hM hl r (i + 1) K (k + 1) at' g2 h2 h3 hlt (by omega)
theorem clsRes_cases (ps : List S23) (forms : List S41) : ((clsRes ps forms).2.fCode ≠ 0) ∨ (clsRes ps forms = (clsS (foundB forms) 0 ps, ⟨0, 0⟩) ∧ ps.length ≤ 40) := by
  unfold clsRes
  split
  · exact .inl (by show (2 : Int) ≠ 0; decide)
  · split
    · rename_i f hf
      obtain ⟨j, x, hx⟩ := firstFault_some hf
      unfold pFault at hx
      split at hx
      · rename_i hn; cases hx; exact .inl hn
      · cases hx
    · split
      · exact .inl (by show (9 : Int) ≠ 0; decide)
      · split
        · rename_i f hf
          obtain ⟨j, x, hx⟩ := firstFault_some hf
          unfold xFault at hx
          split at hx
          · rename_i hn; cases hx; exact .inl hn
          · split at hx
            · cases hx
            · cases hx; exact .inl (by show (5 : Int) ≠ 0; decide)
        · exact .inr ⟨rfl, by omega⟩
theorem plain8 (ps : List S23) (forms : List S41) (more : S41) (hz : forms.length * 40 ≤ 140737488351232) (hn : forms.length ≤ 9223372036854775807) : f8 30000 ps forms more = some true := by
  unfold f8
  rw [f23_eq _ ps forms (by decide)]
  have a1 : app 40 [] forms = some forms := by
    unfold app
    rw [if_pos ⟨by simp only [List.length_nil, Nat.zero_add]; omega, by simp only [List.length_nil, Nat.zero_add]; unfold maxLen; omega⟩]
    rfl
  have a2 : app 40 forms [more] = some (forms ++ [more]) := by
    unfold app
    rw [if_pos ⟨by simp only [List.length_cons, List.length_nil, Nat.add_mul]; omega, by simp only [List.length_cons, List.length_nil]; unfold maxLen; omega⟩]
  rw [a1]
  simp only [f22, bnd_some', Bool.not_true, cnd_false, a2]
  rw [f23_eq _ ps (forms ++ [more]) (by decide)]
  simp only [bnd_some', f8_r5]
  rcases clsRes_cases ps forms with h | ⟨h, hps⟩
  · have hb : ((clsRes ps forms).2.fCode == 0) = false := by simpa using h
    simp only [hb, Bool.false_and, Bool.not_false, Bool.true_or, cnd_true]
  · rcases clsRes_cases ps (forms ++ [more]) with h' | ⟨h', _⟩
    · have hb : ((clsRes ps (forms ++ [more])).2.fCode == 0) = false := by simpa using h'
      simp only [hb, Bool.false_and, Bool.not_false, Bool.or_true, cnd_true]
    · rw [h, h']
      have l1 := cls_len (foundB forms) 0 ps
      have l2 := cls_len (foundB (forms ++ [more])) 0 ps
      have hloop := f8_loop 30000 (clsS (foundB forms) 0 ps) ⟨0, 0⟩ ⟨0, 0⟩ (clsS (foundB (forms ++ [more])) 0 ps) (foundB forms) (foundB (forms ++ [more])) (fun p hp => found_less hp) (by omega) (by omega) ps 0 30000 0 0 (List.drop_zero ..) (List.drop_zero ..) (Nat.zero_le _) (Nat.zero_le _) (by omega)
      have hloop : iter (fun (y : Int × Int) => f8_B4 30000 (clsS (foundB forms) 0 ps, (⟨0, 0⟩ : S27)) (clsS (foundB (forms ++ [more])) 0 ps, (⟨0, 0⟩ : S27)) y.1 y.2) 30000 (0, 0) = _ := hloop
      simp only [beq_self_eq_true, Bool.true_and, Bool.not_true, Bool.or_self, cnd_false]
      rw [hloop]
      simp
end Go.Abs
