import Derived.Test.YthjhdnonlkooiaaDoorQ9
namespace Go.Abs
set_option linter.unusedVariables false
/-! ### cells that are alike -/
theorem f46_eq (m : Nat) (a b : List ByteArray) (ha : a.length ≤ 10000) (hm : 10001 < m) : f46 m a b = some (decide (a = b)) := by
  unfold f46
  by_cases hl : a.length = b.length
  · have hb : ((a.length : Int) != (b.length : Int)) = false := by simp [hl]
    rw [hb, cnd_false]
    have hz : ∀ (i : Int) (xs : List ByteArray) (k : Nat), xs = a.drop k → scan (R := Bool) (fun i (_ : Unit) x => match b[i.toNat]? with
        | some y => if decide (x = y) then some (.inr ()) else some (.inl false)
        | none => none) (k : Int) () xs = if decide (a.drop k = b.drop k) then some (.inr ()) else some (.inl false) := by
      intro _ xs
      induction xs with
      | nil =>
        intro k hk
        have h1 : a.drop k = [] := hk.symm
        have h2 : b.drop k = [] := List.drop_eq_nil_iff.2 (by have := List.drop_eq_nil_iff.1 h1; omega)
        rw [h1, h2]; rfl
      | cons x r ih =>
        intro k hk
        have hlt : k < a.length := by
          rcases Nat.lt_or_ge k a.length with h | h
          · exact h
          · rw [List.drop_eq_nil_iff.2 h] at hk; cases hk
        have hda := List.drop_eq_getElem_cons hlt
        have hdb := List.drop_eq_getElem_cons (l := b) (i := k) (by omega)
        rw [hda] at hk
        cases hk
        simp only [scan, Int.toNat_natCast, List.getElem?_eq_getElem (show k < b.length by omega)]
        rw [hda, hdb]
        by_cases e : a[k] = b[k]'(by omega)
        · have := ih (k + 1) rfl
          simp only [e, decide_true, if_true, List.cons.injEq, true_and]
          exact this
        · have hn : ¬ (a[k] :: a.drop (k + 1) = b[k]'(by omega) :: b.drop (k + 1)) := fun h => e (List.cons.inj h).1
          rw [decide_eq_false e, decide_eq_false hn]
          rfl
    have e : iter (fun (y : Int) => f46_B1 m a b y) m 0 = landed (fun (_ : Unit) (i : Int) => i) a.length (scan (R := Bool) (fun i (_ : Unit) x => match b[i.toNat]? with
        | some y => if decide (x = y) then some (.inr ()) else some (.inl false)
        | none => none) 0 () a) := by
      refine iter_scan a (fun (y : Int) => f46_B1 m a b y) (fun (_ : Unit) (i : Int) => i) _ (fun u k hi => ?_) m 0 () (by omega) (by omega)
      unfold f46_B1
      refine body_turn rfl fun x hx => ?_
      have hw : w64 ((k : Int) + 1) = (k : Int) + 1 := w64_id ⟨by omega, by omega⟩
      have hlt := lt_of_get hx
      rw [idx_get, List.getElem?_eq_getElem (by omega)]
      simp only [bnd_some', tl_eq, hw, Int.toNat_natCast]
      rw [List.getElem?_eq_getElem (show k < b.length by omega)]
      simp only
      by_cases e : x = b[k]'(by omega)
      · simp only [e, decide_true]; rfl
      · simp only [decide_eq_false e]; rfl
    have h0 := hz 0 a 0 rfl
    have h0 : scan (R := Bool) (fun i (_ : Unit) x => match b[i.toNat]? with
        | some y => if decide (x = y) then some (.inr ()) else some (.inl false)
        | none => none) 0 () a = _ := h0
    rw [e, h0]
    simp only [List.drop_zero]
    by_cases hab : a = b
    · rw [decide_eq_true hab]; rfl
    · rw [decide_eq_false hab]; rfl
  · have hb : ((a.length : Int) != (b.length : Int)) = true := by simp; omega
    have hn : ¬ a = b := fun h => hl (by rw [h])
    rw [hb, decide_eq_false hn]
    rfl
def cmpS : List ByteArray → List ByteArray → Int
  | x :: a, y :: b => if lessS x y then -1 else if lessS x y || decide (x = y) then cmpS a b else 1
  | a, b => (a.length : Int) - (b.length : Int)
theorem cmpS_zero : ∀ (a b : List ByteArray), (cmpS a b == 0) = decide (a = b)
  | [], [] => rfl
  | [], y :: b => by
    have hn : ¬ ([] : List ByteArray) = y :: b := fun h => (by cases h)
    simp only [cmpS, decide_eq_false hn, List.length_nil, List.length_cons, beq_eq_false_iff_ne, ne_eq]
    omega
  | x :: a, [] => by
    have hn : ¬ x :: a = [] := fun h => (by cases h)
    simp only [cmpS, decide_eq_false hn, List.length_nil, List.length_cons, beq_eq_false_iff_ne, ne_eq]
    omega
  | x :: a, y :: b => by
    simp only [cmpS]
    by_cases h1 : lessS x y = true
    · have hn : ¬ x :: a = y :: b := fun h => by
        have := (List.cons.inj h).1
        subst this
        unfold lessS at h1
        rw [bls_irrefl] at h1; cases h1
      rw [if_pos h1, decide_eq_false hn]; rfl
    · rw [if_neg h1]
      have h1' : lessS x y = false := by simpa using h1
      rw [h1', Bool.false_or]
      by_cases e : x = y
      · subst e
        rw [decide_eq_true rfl, if_pos rfl, cmpS_zero a b]
        by_cases hab : a = b
        · rw [decide_eq_true hab, decide_eq_true (by rw [hab])]
        · rw [decide_eq_false hab, decide_eq_false (fun h => hab (List.cons.inj h).2)]
      · rw [decide_eq_false e, if_neg (by decide), decide_eq_false (fun h => e (List.cons.inj h).1)]; rfl
def eqC (c x : S41) : Bool := decide (c.fForm = x.fForm) && decide (c.fTags = x.fTags)
def tagged (l : List S41) : Prop := ∀ x ∈ l, x.fTags.length ≤ 4
theorem f70_eq (m : Nat) (c x : S41) (hc : c.fTags.length ≤ 4) (hm : 10001 < m) : f70 m c x = some (eqC c x) := by
  unfold f70 f70_r1 eqC
  rw [tl_eq, f46_eq m _ _ (by omega) hm]
  cases decide (c.fForm = x.fForm) <;> rfl
theorem f47_70 (m : Nat) (l : List S41) (x : S41) (hl : l.length ≤ 10000) (ht : tagged l) (hm : 10001 < m) : f47c70 m l x = some (l.any fun c => eqC c x) := by
  unfold f47c70 f69c70
  have e : iter (fun (y : Int) => f69c70_B1 m l x y) m 0 = landed (fun (_ : Unit) (i : Int) => i) l.length (scan (R := Int) (fun i (_ : Unit) c => if eqC c x then some (.inl i) else some (.inr ())) 0 () l) := by
    refine iter_scan l (fun (y : Int) => f69c70_B1 m l x y) (fun (_ : Unit) (i : Int) => i) _ (fun u k hi => ?_) m 0 () (by omega) (by omega)
    unfold f69c70_B1
    refine body_turn rfl fun c hc => ?_
    have hw : w64 ((k : Int) + 1) = (k : Int) + 1 := w64_id ⟨by omega, by omega⟩
    rw [f70_eq m c x (ht c (List.mem_of_getElem? hc)) hm]
    simp only [bnd_some', hw]
    cases eqC c x <;> rfl
  have hs : ∀ (l : List S41) (i : Int), 0 ≤ i → scan (R := Int) (fun i (_ : Unit) c => if eqC c x then some (.inl i) else some (.inr ())) i () l = some (.inr ()) ∧ l.any (fun c => eqC c x) = false ∨ ∃ j, 0 ≤ j ∧ scan (R := Int) (fun i (_ : Unit) c => if eqC c x then some (.inl i) else some (.inr ())) i () l = some (.inl j) ∧ l.any (fun c => eqC c x) = true := by
    intro l
    induction l with
    | nil => intro i _; exact .inl ⟨rfl, rfl⟩
    | cons c r ih =>
      intro i hi
      simp only [scan, List.any_cons]
      cases hq : eqC c x with
      | true => exact .inr ⟨i, hi, by simp, by simp⟩
      | false =>
        simp only [Bool.false_eq_true, if_false, Bool.false_or]
        exact ih (i + 1) (by omega)
  rw [e]
  rcases hs l 0 (Int.le_refl 0) with ⟨h1, h2⟩ | ⟨j, hj, h1, h2⟩
  · rw [h1, h2]; rfl
  · rw [h1, h2]
    simp only [landed, brk_inl, bnd_some']
    rw [decide_eq_true hj]
theorem f48_eq (m : Nat) (x : S41) (l : List S41) (hl : l.length ≤ 10000) (ht : tagged l) (hm : 10001 < m) : f48 m x l = some (!(l.any fun c => eqC c x)) := by
  unfold f48 f49
  rw [f47_70 m l x hl ht hm]
  rfl
theorem f47_48 (m : Nat) (forms l : List S41) (hf : forms.length ≤ 10000) (hl : l.length ≤ 10000) (ht : tagged l) (hm : 10001 < m) : f47c48 m forms l = some (!(forms.all fun x => l.any fun c => eqC c x)) := by
  unfold f47c48 f69c48
  have e : iter (fun (y : Int) => f69c48_B1 m forms l y) m 0 = landed (fun (_ : Unit) (i : Int) => i) forms.length (scan (R := Int) (fun i (_ : Unit) x => if l.any fun c => eqC c x then some (.inr ()) else some (.inl i)) 0 () forms) := by
    refine iter_scan forms (fun (y : Int) => f69c48_B1 m forms l y) (fun (_ : Unit) (i : Int) => i) _ (fun u k hi => ?_) m 0 () (by omega) (by omega)
    unfold f69c48_B1
    refine body_turn rfl fun x hx => ?_
    have hw : w64 ((k : Int) + 1) = (k : Int) + 1 := w64_id ⟨by omega, by omega⟩
    rw [f48_eq m x l hl ht hm]
    simp only [bnd_some', hw]
    cases l.any fun c => eqC c x <;> rfl
  have hs : ∀ (fs : List S41) (i : Int), 0 ≤ i → scan (R := Int) (fun i (_ : Unit) x => if l.any fun c => eqC c x then some (.inr ()) else some (.inl i)) i () fs = some (.inr ()) ∧ fs.all (fun x => l.any fun c => eqC c x) = true ∨ ∃ j, 0 ≤ j ∧ scan (R := Int) (fun i (_ : Unit) x => if l.any fun c => eqC c x then some (.inr ()) else some (.inl i)) i () fs = some (.inl j) ∧ fs.all (fun x => l.any fun c => eqC c x) = false := by
    intro fs
    induction fs with
    | nil => intro i _; exact .inl ⟨rfl, rfl⟩
    | cons x r ih =>
      intro i hi
      simp only [scan, List.all_cons]
      cases hq : l.any fun c => eqC c x with
      | false => exact .inr ⟨i, hi, by simp, by simp⟩
      | true =>
        simp only [if_true, Bool.true_and]
        exact ih (i + 1) (by omega)
  rw [e]
  rcases hs forms 0 (Int.le_refl 0) with ⟨h1, h2⟩ | ⟨j, hj, h1, h2⟩
  · rw [h1, h2]; rfl
  · rw [h1, h2]
    simp only [landed, brk_inl, bnd_some']
    rw [decide_eq_true hj]; rfl
/-! ### which paradigms -/
def stands (p : S23) (forms : List S41) (b : ByteArray) : Bool := forms.all fun x => (tabS p b).any fun c => eqC c x
theorem tab_ok {p : S23} (hc : ∀ c ∈ p.fCells, cellOk c) (b : ByteArray) : tagged (tabS p b) := fun x hx => (tabS_tags hc x hx).1
def tb (form : ByteArray) (t : List ByteArray) (c : S67) : Option ByteArray := match changeS form c.fAdd c.fCut with
  | some b => if decide (c.fTags = t) then some b else none
  | none => none
theorem tb_some {form b : ByteArray} {t : List ByteArray} {c : S67} : tb form t c = some b ↔ changeS form c.fAdd c.fCut = some b ∧ c.fTags = t := by
  unfold tb
  cases changeS form c.fAdd c.fCut with
  | none => simp
  | some b' =>
    by_cases h : c.fTags = t
    · simp [h]
    · simp [h]
theorem f43c_eq (m : Nat) (p : S23) (x0 : S41) (fr : List S41) (hm : 10001 < m) (hb : wordS x0.fForm = true) (hl : p.fCells.length ≤ 40) (hc : ∀ c ∈ p.fCells, cellOk c) :
    f43c45 m p x0.fForm (x0 :: fr) = some (compactS (sortS (p.fCells.filterMap (tb x0.fForm x0.fTags)))) := by
  unfold f43c45
  have e : iter (fun (y : (List ByteArray) × Int) => f43c45_B4 m p x0.fForm (x0 :: fr) y.1 y.2) m ([], 0) = landed (fun (s : List ByteArray) (i : Int) => (s, i)) p.fCells.length (scan (appStep 16 (tb x0.fForm x0.fTags)) 0 [] p.fCells) := by
    refine iter_scan p.fCells (fun (y : (List ByteArray) × Int) => f43c45_B4 m p x0.fForm (x0 :: fr) y.1 y.2) (fun (s : List ByteArray) (i : Int) => (s, i)) _ (fun s k hi => ?_) m 0 [] (by omega) (by omega)
    unfold f43c45_B4
    refine body_turn rfl fun x hx => ?_
    have hw : w64 ((k : Int) + 1) = (k : Int) + 1 := w64_id ⟨by omega, by omega⟩
    obtain ⟨h1, h2, h3⟩ := hc x (List.mem_of_getElem? hx)
    obtain ⟨r, hr, hr2⟩ := f62_eq m x0.fForm x.fAdd x.fCut hb h3 h2
    have h45 : f45 m x (x0 :: fr) = some (decide (x.fTags = x0.fTags)) := by
      unfold f45
      have h0 : idx (x0 :: fr) 0 = some x0 := rfl
      rw [h0]
      simp only [bnd_some', f46_eq m _ _ (by omega : x.fTags.length ≤ 10000) hm]
    rw [hr]
    simp only [bnd_some', h45, f43c45_r3, f43c45_j2, f43c45_j1, hw, appStep, tb]
    cases hq : changeS x0.fForm x.fAdd x.fCut with
    | none => rfl
    | some r' =>
      have := hr2 r' hq
      subst this
      simp only [Option.isSome_some, cnd_true, bnd_some']
      cases decide (x.fTags = x0.fTags) with
      | false => rfl
      | true =>
        simp only [cnd_true, if_true]
        cases app 16 s [r'] <;> rfl
  rw [e, scan_app 16 (by omega) _ p.fCells 0 [] (by simp only [List.length_nil]; omega)]
  have hlen := List.length_filterMap_le (tb x0.fForm x0.fTags) p.fCells
  simp only [landed, brk_inr, List.nil_append, srt]
  rw [if_pos (by omega)]
  rfl
/-- all the words stand in one table -/
def found (forms : List S41) (p : S23) : Prop := ∃ b, wordS b = true ∧ stands p forms b = true
theorem stand_back {p : S23} {forms : List S41} {b : ByteArray} {x : S41} (hb : wordS b = true) (hs : stands p forms b = true) (hx : x ∈ forms) : ∃ c ∈ p.fCells, changeS x.fForm c.fAdd c.fCut = some b ∧ c.fTags = x.fTags ∧ wordS x.fForm = true := by
  unfold stands at hs
  have h1 := List.all_eq_true.1 hs x hx
  obtain ⟨y, hy, hyx⟩ := List.any_eq_true.1 h1
  unfold eqC at hyx
  rw [Bool.and_eq_true, decide_eq_true_eq, decide_eq_true_eq] at hyx
  unfold tabS at hy
  obtain ⟨c, hc, hr⟩ := List.mem_filterMap.1 hy
  unfold rowOf at hr
  obtain ⟨s, hs2, rfl⟩ := Option.map_eq_some_iff.1 hr
  obtain ⟨e1, e2⟩ := hyx
  have e1 : s = x.fForm := e1
  subst e1
  exact ⟨c, hc, (change_back hb hs2).1, e2, changeS_word hs2⟩
theorem found_prog (p : S23) (x0 : S41) (fr : List S41) : (compactS (sortS (p.fCells.filterMap (tb x0.fForm x0.fTags)))).any (stands p (x0 :: fr)) = true ↔ found (x0 :: fr) p := by
  rw [List.any_eq_true]
  constructor
  · rintro ⟨b, hb, hs⟩
    obtain ⟨c, hc, h⟩ := List.mem_filterMap.1 (((setS_spec _).2 b).1 hb)
    exact ⟨b, changeS_word (tb_some.1 h).1, hs⟩
  · rintro ⟨b, hb, hs⟩
    obtain ⟨c, hc, h1, h2, h3⟩ := stand_back hb hs List.mem_cons_self
    exact ⟨b, ((setS_spec _).2 b).2 (List.mem_filterMap.2 ⟨c, hc, tb_some.2 ⟨h1, h2⟩⟩), hs⟩
theorem found_ref (p : S23) (forms : List S41) (x : S41) (hx : x ∈ forms) (hw : wordS x.fForm = true) : (basesRef p x.fForm).any (stands p forms) = true ↔ found forms p := by
  rw [List.any_eq_true]
  constructor
  · rintro ⟨b, hb, hs⟩
    exact ⟨b, bases_word hw hb, hs⟩
  · rintro ⟨b, hb, hs⟩
    obtain ⟨c, hc, h1, h2, h3⟩ := stand_back hb hs hx
    exact ⟨b, (mem_bases h3).2 ⟨c, hc, h1⟩, hs⟩
end Go.Abs
