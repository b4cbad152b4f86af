import Derived.Test.YthjhdnonlkooiaaDoorPPlain5
namespace Go.Abs
set_option linter.unusedVariables false
/-! ### words with another end -/
theorem ext_size (s : ByteArray) (i j : Nat) (hij : i ≤ j) (hj : j ≤ s.size) : (s.extract i j).size = j - i := by
  rw [← bytN_len, bytN_extract, List.length_take, List.length_drop, bytN_len]; omega
/-- is b the end of a? -/
def sufB (a b : ByteArray) : Bool := decide (b.size ≤ a.size) && decide (a.extract (a.size - b.size) a.size = b)
theorem ssub_nat (s : ByteArray) (i j : Nat) (hij : i ≤ j) (hj : j ≤ s.size) : ssub s (i : Int) (j : Int) = some (s.extract i j) := by
  unfold ssub; rw [if_pos ⟨by omega, by omega, by omega⟩, Int.toNat_natCast, Int.toNat_natCast]
theorem f117_eq (m : Nat) (a b : ByteArray) (ha : a.size ≤ 1000000000) (hb : b.size ≤ 1000000000) : f117 m a b = some (sufB a b) := by
  unfold f117 f117_r1 sufB
  by_cases h : b.size ≤ a.size
  · have hw : w64 ((a.size : Int) - (b.size : Int)) = ((a.size - b.size : Nat) : Int) := by rw [w64_id ⟨by omega, by omega⟩]; omega
    rw [decide_eq_true (by omega), decide_eq_true h, hw, ssub_nat a _ _ (by omega) (Nat.le_refl _)]
    simp only [cnd_true, bnd_some', tl_eq, Bool.true_and]
  · rw [decide_eq_false (by omega), decide_eq_false h]
    rfl
theorem f83_eq (m : Nat) (a b : ByteArray) (ha : a.size ≤ 1000000000) (hb : b.size ≤ 1000000000) : f83 m a b = some (if sufB a b then (a.extract 0 (a.size - b.size), true) else (a, false)) := by
  unfold f83 f102
  rw [f117_eq m a b ha hb]
  simp only [bnd_some']
  cases hs : sufB a b with
  | false => rfl
  | true =>
    have h : b.size ≤ a.size := by
      unfold sufB at hs
      rw [Bool.and_eq_true, decide_eq_true_eq] at hs
      exact hs.1
    have hw : w64 ((a.size : Int) - (b.size : Int)) = ((a.size - b.size : Nat) : Int) := by rw [w64_id ⟨by omega, by omega⟩]; omega
    have := ssub_nat a 0 (a.size - b.size) (by omega) (by omega)
    rw [hw]
    have this : ssub a 0 ((a.size - b.size : Nat) : Int) = some (a.extract 0 (a.size - b.size)) := this
    rw [this]
    rfl
theorem sufB_cat {a b : ByteArray} (h : sufB a b = true) : b.size ≤ a.size ∧ bytN a = bytN (a.extract 0 (a.size - b.size)) ++ bytN b := by
  unfold sufB at h
  rw [Bool.and_eq_true, decide_eq_true_eq, decide_eq_true_eq] at h
  refine ⟨h.1, ?_⟩
  have h2 := congrArg bytN h.2
  rw [bytN_extract] at h2
  have h3 : (bytN a).drop (a.size - b.size) = bytN b := by rw [← h2, List.take_of_length_le (by rw [List.length_drop, bytN_len]; omega)]
  rw [bytN_extract, List.drop_zero, Nat.sub_zero, ← h3, List.take_append_drop]
/-- a word that another one becomes by its end -/
def changeS (a cut add : ByteArray) : Option ByteArray := if sufB a cut && wordS (a.extract 0 (a.size - cut.size) ++ add) then some (a.extract 0 (a.size - cut.size) ++ add) else none
theorem wordS_spec {s : ByteArray} (h : wordS s = true) : ∃ L, ptsS s = some L ∧ 1 ≤ L.length ∧ L.length ≤ 30 ∧ s.size ≤ 120 ∧ ∀ p ∈ L, badP p = false := by
  unfold wordS at h
  rw [Bool.and_eq_true] at h
  cases hq : ptsS s with
  | none => rw [hq] at h; cases h.2
  | some L =>
    rw [hq] at h
    have h2 := h.2
    simp only [okP, Bool.and_eq_true, decide_eq_true_eq, List.all_eq_true, Bool.not_eq_true'] at h2
    have := ptsS_len hq
    exact ⟨L, rfl, h2.1.1, h2.1.2, by omega, h2.2⟩
theorem wordS_of {s : ByteArray} {L : List Nat} (h : ptsS s = some L) (hl : L.length ≤ 1000) (hb : ∀ p ∈ L, badP p = false) : wordS s = decide (1 ≤ L.length ∧ L.length ≤ 30) := by
  have := ptsS_len h
  unfold wordS
  rw [decide_eq_true (by omega), h]
  simp only [okP, Bool.true_and]
  have : L.all (fun p => !badP p) = true := by
    rw [List.all_eq_true]
    intro p hp
    rw [hb p hp]; rfl
  rw [this, Bool.and_true]
theorem partS_spec {s : ByteArray} (h : partS s = true) : ∃ L, ptsS s = some L ∧ L.length ≤ 30 ∧ s.size ≤ 120 ∧ ∀ p ∈ L, badP p = false := by
  unfold partS at h
  rw [Bool.or_eq_true, decide_eq_true_eq] at h
  rcases h with rfl | h
  · exact ⟨[], rfl, by simp, by decide, fun p hp => by cases hp⟩
  · obtain ⟨L, h1, h2, h3, h4, h5⟩ := wordS_spec h
    exact ⟨L, h1, h3, h4, h5⟩
theorem cat_size (a b : ByteArray) : (a ++ b).size = a.size + b.size := by rw [← bytN_len, bytN_cat, List.length_append, bytN_len, bytN_len]
theorem stem_ok {a cut add : ByteArray} (ha : wordS a = true) (hc : partS cut = true) (hd : partS add = true) (hs : sufB a cut = true) :
    ∃ L, ptsS (a.extract 0 (a.size - cut.size) ++ add) = some L ∧ L.length ≤ 60 ∧ ∀ p ∈ L, badP p = false := by
  obtain ⟨La, h1, h2, h3, h4, h5⟩ := wordS_spec ha
  obtain ⟨Lc, c1, c2, c3, c4⟩ := partS_spec hc
  obtain ⟨Ld, d1, d2, d3, d4⟩ := partS_spec hd
  obtain ⟨_, hcat⟩ := sufB_cat hs
  unfold ptsS at h1
  rw [hcat] at h1
  obtain ⟨L1, L2, e1, e2, e3⟩ := ptsB_cut _ _ _ La (Nat.le_refl _) h1 (fun x r hx => by
    unfold ptsS at c1
    rw [hx] at c1
    exact ptsB_head c1)
  have hcat2 := ptsB_cat _ _ _ _ _ (Nat.le_refl _) e1 d1
  subst e3
  rw [List.length_append] at h3
  refine ⟨L1 ++ Ld, by unfold ptsS; rw [bytN_cat]; exact hcat2, by rw [List.length_append]; omega, fun p hp => ?_⟩
  rcases List.mem_append.1 hp with hp | hp
  · exact h5 p (List.mem_append.2 (.inl hp))
  · exact d4 p hp
theorem scat_small (a b : ByteArray) (h : a.size + b.size ≤ 1000000) : scat a b = some (a ++ b) := by
  unfold scat
  rw [if_pos (by unfold maxLen; omega)]
theorem empty_iff (s : ByteArray) : (s = ⟨#[]⟩) ↔ s.size = 0 := by
  constructor
  · rintro rfl; rfl
  · intro h
    refine bytN_inj ?_
    have : (bytN s).length = 0 := by rw [bytN_len]; exact h
    rw [List.length_eq_zero_iff.1 this]; rfl
theorem f62_eq (m : Nat) (a cut add : ByteArray) (ha : wordS a = true) (hc : partS cut = true) (hd : partS add = true) :
    ∃ s, f62 m a cut add = some (s, (changeS a cut add).isSome) ∧ ∀ r, changeS a cut add = some r → r = s := by
  obtain ⟨La, h1, h2, h3, h4, h5⟩ := wordS_spec ha
  obtain ⟨Lc, c1, c2, c3, c4⟩ := partS_spec hc
  obtain ⟨Ld, d1, d2, d3, d4⟩ := partS_spec hd
  unfold f62
  rw [f83_eq m a cut (by omega) (by omega)]
  cases hs : sufB a cut with
  | false =>
    simp only [Bool.false_eq_true, if_false, bnd_some', Bool.false_and]
    rw [scat_small _ _ (by omega)]
    refine ⟨a ++ add, ?_, fun r hr => ?_⟩
    · have : changeS a cut add = none := by unfold changeS; rw [hs]; rfl
      rw [this]; rfl
    · unfold changeS at hr; rw [hs] at hr; cases hr
  | true =>
    obtain ⟨L, l1, l2, l3⟩ := stem_ok ha hc hd hs
    have hsz := ptsS_len l1
    have hle := (sufB_cat hs).1
    have hst : (a.extract 0 (a.size - cut.size)).size = a.size - cut.size := by rw [ext_size _ _ _ (by omega) (by omega)]; omega
    have hch : changeS a cut add = if decide (1 ≤ L.length ∧ L.length ≤ 30) then some (a.extract 0 (a.size - cut.size) ++ add) else none := by
      unfold changeS
      rw [hs, wordS_of l1 (by omega) l3, Bool.true_and]
    simp only [if_true, bnd_some', Bool.true_and]
    rw [scat_small _ _ (by omega)]
    simp only [bnd_some', f62_r2, tl_eq]
    refine ⟨a.extract 0 (a.size - cut.size) ++ add, ?_, fun r hr => ?_⟩
    · by_cases he : a.extract 0 (a.size - cut.size) ++ add = ⟨#[]⟩
      · have : L.length = 0 := by
          have := (empty_iff _).1 he
          omega
        rw [hch, decide_eq_true he, decide_eq_false (by omega)]
        rfl
      · have : 1 ≤ L.length := by
          rcases Nat.eq_zero_or_pos L.length with h0 | h0
          · exact (he ((empty_iff _).2 (by omega))).elim
          · exact h0
        rw [hch, decide_eq_false he]
        unfold f84
        rw [if_pos (by omega), runeCount_pts l1]
        simp only [Bool.not_false, cnd_true, bnd_some', f62_r1]
        by_cases h30 : L.length ≤ 30
        · rw [decide_eq_true (by omega : (L.length : Int) ≤ 30), decide_eq_true ⟨this, h30⟩]; rfl
        · rw [decide_eq_false (by omega : ¬ (L.length : Int) ≤ 30), decide_eq_false (fun h => h30 h.2)]; rfl
    · rw [hch] at hr
      split at hr
      · cases hr; rfl
      · cases hr
theorem changeS_word {a cut add r : ByteArray} (h : changeS a cut add = some r) : wordS r = true := by
  unfold changeS at h
  split at h
  · rename_i hc
    cases h
    rw [Bool.and_eq_true] at hc
    exact hc.2
  · cases h
theorem wordS_ne {s : ByteArray} (h : wordS s = true) : s ≠ ⟨#[]⟩ := by
  rintro rfl
  obtain ⟨L, h1, h2, _⟩ := wordS_spec h
  have := ptsS_len h1
  have h0 : (⟨#[]⟩ : ByteArray).size = 0 := rfl
  omega
/-! ### faults -/
def cellFault (i : Int) (c : S67) : Option S27 := if tagsS c.fTags ≠ 0 then some ⟨tagsS c.fTags, i⟩ else match partS c.fCut && partS c.fAdd with
  | true => none
  | false => some ⟨5, i⟩
def firstFault {α : Type} (g : Int → α → Option S27) : Int → List α → Option S27
  | _, [] => none
  | i, x :: r => match g i x with
    | some f => some f
    | none => firstFault g (i + 1) r
def firstStep {α : Type} (g : Int → α → Option S27) (i : Int) (_ : Unit) (x : α) : Option (S27 ⊕ Unit) := match g i x with
  | some f => some (.inl f)
  | none => some (.inr ())
theorem scan_first {α : Type} (g : Int → α → Option S27) : ∀ (xs : List α) (i : Int), scan (firstStep g) i () xs = match firstFault g i xs with
    | some f => some (.inl f)
    | none => some (.inr ())
  | [], i => rfl
  | x :: r, i => by
    simp only [scan, firstFault, firstStep]
    cases hg : g i x with
    | some f => rfl
    | none => exact scan_first g r (i + 1)
def faultS (p : S23) : S27 := if !nameS p.fName then ⟨10, -1⟩ else if p.fCells.length < 1 ∨ 40 < p.fCells.length then ⟨9, -1⟩ else (firstFault cellFault 0 p.fCells).getD ⟨0, 0⟩
theorem f15_eq (m : Nat) (p : S23) (hm : 4001 < m) : f15 m p = some (faultS p) := by
  unfold f15 faultS
  rw [f39_eq m _ (by omega)]
  simp only [bnd_some']
  cases nameS p.fName with
  | false => rfl
  | true =>
    simp only [Bool.not_true, cnd_false, f15_r4, Bool.false_eq_true, if_false]
    by_cases hc : p.fCells.length < 1 ∨ 40 < p.fCells.length
    · have hb : (decide ((p.fCells.length : Int) < 1) || decide ((p.fCells.length : Int) > 40)) = true := by
        simp only [Bool.or_eq_true, decide_eq_true_eq]; omega
      rw [hb, if_pos hc]; rfl
    · have hb : (decide ((p.fCells.length : Int) < 1) || decide ((p.fCells.length : Int) > 40)) = false := by
        simp only [Bool.or_eq_false_iff, decide_eq_false_iff_not]; omega
      rw [hb, if_neg hc, cnd_false]
      have e : iter (fun (y : Int) => f15_B3 m p y) m 0 = landed (fun (_ : Unit) (i : Int) => i) p.fCells.length (scan (firstStep cellFault) 0 () p.fCells) := by
        refine iter_scan p.fCells (fun (y : Int) => f15_B3 m p y) (fun (_ : Unit) (i : Int) => i) _ (fun u k hi => ?_) m 0 () (by omega) (by omega)
        unfold f15_B3
        refine body_turn rfl fun x hx => ?_
        have hw : w64 ((k : Int) + 1) = (k : Int) + 1 := w64_id ⟨by omega, by omega⟩
        simp only [f40_eq m _ (by omega : 31 < m), bnd_some', tl_eq, f32_eq m _ hm, f15_r2, f15_r1, f33, firstStep, cellFault, partS]
        by_cases ht : tagsS x.fTags = 0
        · have hb2 : (tagsS x.fTags != 0) = false := by simp [ht]
          rw [hb2, if_neg (by simpa using ht), cnd_false, hw]
          cases decide (x.fCut = ⟨#[]⟩) <;> cases wordS x.fCut <;> cases decide (x.fAdd = ⟨#[]⟩) <;> cases wordS x.fAdd <;> rfl
        · have hb2 : (tagsS x.fTags != 0) = true := by simpa using ht
          rw [hb2, if_pos ht]; rfl
      rw [e, scan_first]
      cases firstFault cellFault 0 p.fCells <;> rfl
def cellOk (c : S67) : Prop := c.fTags.length ≤ 4 ∧ partS c.fCut = true ∧ partS c.fAdd = true
theorem firstFault_none {α : Type} {g : Int → α → Option S27} : ∀ {xs : List α} {i : Int}, firstFault g i xs = none → ∀ x ∈ xs, ∃ j, g j x = none
  | [], _, _, x, hx => by cases hx
  | y :: r, i, h, x, hx => by
    simp only [firstFault] at h
    cases hg : g i y with
    | some f => rw [hg] at h; cases h
    | none =>
      rw [hg] at h
      rcases List.mem_cons.1 hx with rfl | hx
      · exact ⟨i, hg⟩
      · exact firstFault_none h x hx
theorem firstFault_some {α : Type} {g : Int → α → Option S27} {f : S27} : ∀ {xs : List α} {i : Int}, firstFault g i xs = some f → ∃ j x, g j x = some f
  | [], _, h => by cases h
  | y :: r, i, h => by
    simp only [firstFault] at h
    cases hg : g i y with
    | some f' => rw [hg] at h; cases h; exact ⟨i, y, hg⟩
    | none => rw [hg] at h; exact firstFault_some h
theorem cellFault_none {i : Int} {c : S67} (h : cellFault i c = none) : cellOk c := by
  unfold cellFault at h
  split at h
  · cases h
  · rename_i ht
    split at h
    · rename_i hp
      rw [Bool.and_eq_true] at hp
      refine ⟨?_, hp.1, hp.2⟩
      rcases Nat.lt_or_ge 4 c.fTags.length with hl | hl
      · exfalso
        have : tagsS c.fTags = 2 := by unfold tagsS; rw [if_pos hl]
        omega
      · exact hl
    · cases h
theorem faultS_cases (p : S23) : (faultS p = ⟨0, 0⟩ ∧ p.fCells.length ≤ 40 ∧ 1 ≤ p.fCells.length ∧ nameS p.fName = true ∧ ∀ c ∈ p.fCells, cellOk c) ∨ (faultS p).fCode ≠ 0 := by
  unfold faultS
  cases hn : nameS p.fName with
  | false => exact .inr (by show (10 : Int) ≠ 0; decide)
  | true =>
    simp only [Bool.not_true, Bool.false_eq_true, if_false]
    by_cases hc : p.fCells.length < 1 ∨ 40 < p.fCells.length
    · rw [if_pos hc]; exact .inr (by show (9 : Int) ≠ 0; decide)
    · rw [if_neg hc]
      cases hf : firstFault cellFault 0 p.fCells with
      | none =>
        refine .inl ⟨rfl, by omega, by omega, trivial, fun c hcm => ?_⟩
        obtain ⟨j, hj⟩ := firstFault_none hf c hcm
        exact cellFault_none hj
      | some f =>
        obtain ⟨j, x, hx⟩ := firstFault_some hf
        refine .inr ?_
        unfold cellFault at hx
        split at hx
        · rename_i ht; cases hx; exact ht
        · split at hx
          · cases hx
          · cases hx; show (5 : Int) ≠ 0; decide
/-! ### tables -/
def rowOf (base : ByteArray) (c : S67) : Option S41 := (changeS base c.fCut c.fAdd).map fun s => ⟨c.fTags, s⟩
def tabS (p : S23) (base : ByteArray) : List S41 := p.fCells.filterMap (rowOf base)
def appStep {α β R : Type} (b : Nat) (G : α → Option β) (i : Int) (s : List β) (x : α) : Option (R ⊕ List β) := match G x with
  | some y => (app b s [y]).map .inr
  | none => some (.inr s)
theorem scan_app {α β R : Type} (b : Nat) (hb : b ≤ 100000) (G : α → Option β) : ∀ (xs : List α) (i : Int) (s : List β), s.length + xs.length ≤ 1000000000 →
    scan (R := R) (appStep b G) i s xs = some (.inr (s ++ xs.filterMap G))
  | [], i, s, _ => by simp [scan]
  | x :: r, i, s, h => by
    simp only [List.length_cons] at h
    have hmul : (s.length + 1) * b ≤ 1000000000 * 100000 := Nat.mul_le_mul (by omega) hb
    simp only [scan, appStep]
    cases hg : G x with
    | some y =>
      simp only
      rw [app_some b s [y] (by simp only [List.length_cons, List.length_nil, Nat.zero_add]; omega) (by simp only [List.length_cons, List.length_nil]; omega)]
      simp only [Option.map_some]
      rw [scan_app b hb G r (i + 1) (s ++ [y]) (by simp only [List.length_append, List.length_cons, List.length_nil]; omega)]
      simp [List.filterMap_cons, hg]
    | none =>
      simp only
      rw [scan_app b hb G r (i + 1) s (by omega)]
      simp [List.filterMap_cons, hg]
theorem tabS_len (p : S23) (base : ByteArray) : (tabS p base).length ≤ p.fCells.length := List.length_filterMap_le _ _
theorem tabS_tags {p : S23} {base : ByteArray} (hc : ∀ c ∈ p.fCells, cellOk c) : ∀ x ∈ tabS p base, x.fTags.length ≤ 4 ∧ wordS x.fForm = true := by
  intro x hx
  unfold tabS at hx
  obtain ⟨c, h1, h2⟩ := List.mem_filterMap.1 hx
  unfold rowOf at h2
  obtain ⟨s, h3, rfl⟩ := Option.map_eq_some_iff.1 h2
  exact ⟨(hc c h1).1, changeS_word h3⟩
def isZero (f : S27) : Bool := (f.fCode == 0) && ((f.fIndex == 0) && true)
end Go.Abs
