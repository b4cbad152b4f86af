import Derived.Test.YthjhdnonlkooiaaDoorQ7
namespace Go.Abs
set_option linter.unusedVariables false
/-! ### more on loops -/
theorem scan_fold {α R S : Type} (g : S → α → S) : ∀ (xs : List α) (i : Int) (s : S), scan (R := R) (fun _ s x => some (.inr (g s x))) i s xs = some (.inr (xs.foldl g s))
  | [], i, s => rfl
  | x :: r, i, s => by simp only [scan, List.foldl_cons]; exact scan_fold g r (i + 1) (g s x)
theorem iter_scan_ix {α R S A : Type} (xs : List α) (B : A → Option (Stp R A)) (mk : S → Int → A) (g : Int → S → α → Option (R ⊕ S)) (I : Nat → S → Prop) (hB : ∀ (s : S) (i : Nat), I i s → i ≤ xs.length → B (mk s i) = turn xs mk g s i)
    (hI : ∀ (s s' : S) (i : Nat) (x : α), I i s → xs[i]? = some x → g i s x = some (.inr s') → I (i + 1) s') :
    ∀ (m i : Nat) (s : S), I i s → i ≤ xs.length → xs.length < m + i → iter B m (mk s i) = landed mk xs.length (scan g i s (xs.drop i))
  | 0, i, s, hs, h1, h2 => by omega
  | m + 1, i, s, hs, h1, h2 => by
    unfold iter
    rw [hB s i hs h1]
    unfold turn
    rcases Nat.lt_or_ge i xs.length with hlt | hge
    · rw [List.getElem?_eq_getElem hlt, List.drop_eq_getElem_cons hlt]
      simp only [scan]
      cases hg : g i s xs[i] with
      | none => rfl
      | some o =>
        cases o with
        | inl r => rfl
        | inr s' => exact iter_scan_ix xs B mk g I hB hI m (i + 1) s' (hI s s' i _ hs (List.getElem?_eq_getElem hlt) hg) hlt (by omega)
    · have : i = xs.length := by omega
      subst this
      simp [scan, landed]
/-- a fold that only adds -/
theorem foldl_mem {α β : Type} {Good : List β → Prop} {C : α → β → Prop} {f : List β → α → List β} : ∀ (l : List α) (s : List β), (∀ s y, y ∈ l → Good s → Good (f s y) ∧ ∀ x, x ∈ f s y ↔ x ∈ s ∨ C y x) → Good s → Good (l.foldl f s) ∧ ∀ x, x ∈ l.foldl f s ↔ x ∈ s ∨ ∃ y ∈ l, C y x
  | [], s, _, hs => ⟨hs, fun x => by simp⟩
  | y :: r, s, h, hs => by
    obtain ⟨h1, h2⟩ := h s y List.mem_cons_self hs
    obtain ⟨h3, h4⟩ := foldl_mem r (f s y) (fun s z hz => h s z (List.mem_cons_of_mem _ hz)) h1
    refine ⟨h3, fun x => (h4 x).trans ?_⟩
    rw [h2]
    simp only [List.mem_cons]
    constructor
    · rintro ((h | h) | ⟨z, hz, h⟩)
      · exact .inl h
      · exact .inr ⟨y, .inl rfl, h⟩
      · exact .inr ⟨z, .inr hz, h⟩
    · rintro (g | ⟨z, hz, g⟩)
      · exact .inl (.inl g)
      · rcases hz with e | hz
        · exact .inl (.inr (e ▸ g))
        · exact .inr ⟨z, hz, g⟩
/-! ### where a string stands in a list in order -/
def lessS (a b : ByteArray) : Bool := bls (bl a) (bl b)
theorem less_eq (a b : ByteArray) : Op.bytesLess a.toList b.toList = lessS a b := by rw [Lib.toList_data, Lib.toList_data]; rfl
def atS (b : ByteArray) : List ByteArray → Nat
  | [] => 0
  | x :: r => if lessS x b then atS b r + 1 else 0
theorem atS_le (b : ByteArray) : ∀ l, atS b l ≤ l.length
  | [] => Nat.le_refl _
  | x :: r => by
    have := atS_le b r
    simp only [atS, List.length_cons]
    split <;> omega
/-- put into a list in order, once -/
def insS (b : ByteArray) (out : List ByteArray) : List ByteArray := if atS b out = out.length ∨ out[atS b out]? ≠ some b then out.take (atS b out) ++ [b] ++ out.drop (atS b out) else out
theorem insS_cons (b x : ByteArray) (r : List ByteArray) : insS b (x :: r) = if lessS x b then x :: insS b r else if x = b then x :: r else b :: x :: r := by
  unfold insS
  simp only [atS]
  by_cases h : lessS x b = true
  · simp only [h, if_true, List.length_cons, List.getElem?_cons_succ, List.take_succ_cons, List.drop_succ_cons, List.cons_append, Nat.add_right_cancel_iff]
    split <;> rfl
  · simp only [h, if_false, List.length_cons, List.getElem?_cons_zero, List.take_zero, List.drop_zero, Bool.false_eq_true]
    by_cases e : x = b
    · rw [if_neg (by simp [e]), if_pos e]
    · rw [if_pos (by simp [e]), if_neg e]; rfl
theorem insS_spec (b : ByteArray) : ∀ out, SS out → SS (insS b out) ∧ ∀ x, x ∈ insS b out ↔ x ∈ out ∨ x = b
  | [], _ => by
    have : insS b [] = [b] := rfl
    rw [this]
    exact ⟨List.pairwise_singleton _ _, fun x => by simp⟩
  | x :: r, h => by
    rw [insS_cons]
    have hc := List.pairwise_cons.1 h
    obtain ⟨i1, i2⟩ := insS_spec b r hc.2
    split
    · rename_i hl
      refine ⟨List.pairwise_cons.2 ⟨fun y hy => ?_, i1⟩, fun y => ?_⟩
      · rcases (i2 y).1 hy with hy | rfl
        · exact hc.1 y hy
        · exact hl
      · simp only [List.mem_cons, i2]
        constructor
        · rintro (h | h | h)
          · exact .inl (.inl h)
          · exact .inl (.inr h)
          · exact .inr h
        · rintro ((h | h) | h)
          · exact .inl h
          · exact .inr (.inl h)
          · exact .inr (.inr h)
    · rename_i hl
      split
      · rename_i e
        refine ⟨h, fun y => ?_⟩
        simp only [List.mem_cons]
        constructor
        · exact .inl
        · rintro (h | rfl)
          · exact h
          · exact .inl e.symm
      · rename_i e
        have hbx : bls (bl b) (bl x) = true := by
          rcases bls_tri (bl x) (bl b) with h | h | h
          · exact absurd h hl
          · exact absurd (bl_inj h) e
          · exact h
        refine ⟨List.pairwise_cons.2 ⟨fun y hy => ?_, h⟩, fun y => ?_⟩
        · rcases List.mem_cons.1 hy with rfl | hy
          · exact hbx
          · exact bls_trans hbx (hc.1 y hy)
        · simp only [List.mem_cons]
          constructor
          · rintro (h | h | h)
            · exact .inr h
            · exact .inl (.inl h)
            · exact .inl (.inr h)
          · rintro ((h | h) | h)
            · exact .inr (.inl h)
            · exact .inr (.inr h)
            · exact .inl h
theorem insS_len (b : ByteArray) (out : List ByteArray) : (insS b out).length ≤ out.length + 1 := by
  unfold insS
  split
  · have := atS_le b out
    simp only [List.length_append, List.length_take, List.length_drop, List.length_cons, List.length_nil]
    omega
  · omega
/-! ### base forms -/
def hasForm (p : S23) (b form : ByteArray) : Bool := (tabS p b).any fun x => decide (x.fForm = form)
def stepB (p : S23) (form cut : ByteArray) (out : List ByteArray) (n : Nat) : List ByteArray :=
  if wordS (form.extract 0 n ++ cut) && hasForm p (form.extract 0 n ++ cut) form then insS (form.extract 0 n ++ cut) out else out
def basesRef (p : S23) (form : ByteArray) : List ByteArray := p.fCells.foldl (fun out c => (List.range (form.size + 1)).foldl (stepB p form c.fCut) out) []
theorem stepB_len (p : S23) (form cut : ByteArray) (out : List ByteArray) (n : Nat) : (stepB p form cut out n).length ≤ out.length + 1 := by
  unfold stepB
  split
  · exact insS_len _ _
  · omega
theorem row_len (p : S23) (form cut : ByteArray) : ∀ (l : List Nat) (out : List ByteArray), (l.foldl (stepB p form cut) out).length ≤ out.length + l.length
  | [], out => by simp
  | n :: l, out => by
    have h1 := stepB_len p form cut out n
    have h2 := row_len p form cut l (stepB p form cut out n)
    simp only [List.foldl_cons, List.length_cons]
    omega
theorem change_back {form b add cut : ByteArray} (hf : wordS form = true) (h : changeS form add cut = some b) : changeS b cut add = some form ∧ form.extract 0 (form.size - add.size) ++ cut = b ∧ add.size ≤ form.size := by
  unfold changeS at h
  split at h
  · rename_i hc
    rw [Bool.and_eq_true] at hc
    obtain ⟨hs, hw⟩ := hc
    have h := Option.some.inj h
    obtain ⟨hle, hcat⟩ := sufB_cat hs
    have hst : (form.extract 0 (form.size - add.size)).size = form.size - add.size := by rw [ext_size _ _ _ (by omega) (by omega)]; omega
    generalize form.extract 0 (form.size - add.size) = stem at *
    have hform : form = stem ++ add := bytN_inj (by rw [hcat, bytN_cat])
    subst h
    have hsz : (stem ++ cut).size = stem.size + cut.size := cat_size stem cut
    have hsub : (stem ++ cut).size - cut.size = stem.size := by omega
    have e1 : (stem ++ cut).extract stem.size (stem ++ cut).size = cut := by
      refine bytN_inj ?_
      rw [bytN_all, bytN_cat, List.drop_append_of_le_length (by rw [bytN_len]; omega), List.drop_of_length_le (by rw [bytN_len]; omega), List.nil_append]
    have e2 : (stem ++ cut).extract 0 stem.size = stem := by
      refine bytN_inj ?_
      rw [bytN_extract, bytN_cat, List.drop_zero, Nat.sub_zero, List.take_append_of_le_length (by rw [bytN_len]; omega), List.take_of_length_le (by rw [bytN_len]; omega)]
    have hsuf : sufB (stem ++ cut) cut = true := by
      unfold sufB
      rw [decide_eq_true (by omega), hsub, decide_eq_true e1]; rfl
    refine ⟨?_, rfl, hle⟩
    unfold changeS
    rw [hsuf, hsub, e2, ← hform, hf]
    rfl
  · cases h
theorem basesRef_spec (p : S23) (form : ByteArray) : SS (basesRef p form) ∧ ∀ b, b ∈ basesRef p form ↔ ∃ c ∈ p.fCells, ∃ n ∈ List.range (form.size + 1), b = form.extract 0 n ++ c.fCut ∧ wordS b = true ∧ hasForm p b form = true := by
  have inner : ∀ (cut : ByteArray) (s : List ByteArray), SS s → SS ((List.range (form.size + 1)).foldl (stepB p form cut) s) ∧ ∀ x, x ∈ (List.range (form.size + 1)).foldl (stepB p form cut) s ↔ x ∈ s ∨ ∃ n ∈ List.range (form.size + 1), x = form.extract 0 n ++ cut ∧ wordS x = true ∧ hasForm p x form = true := by
    intro cut s hs
    refine foldl_mem (Good := SS) (C := fun n x => x = form.extract 0 n ++ cut ∧ wordS x = true ∧ hasForm p x form = true) _ s (fun s n _ hs => ?_) hs
    unfold stepB
    split
    · rename_i hc
      rw [Bool.and_eq_true] at hc
      obtain ⟨h1, h2⟩ := insS_spec (form.extract 0 n ++ cut) s hs
      refine ⟨h1, fun x => (h2 x).trans ?_⟩
      constructor
      · rintro (h | rfl)
        · exact .inl h
        · exact .inr ⟨rfl, hc.1, hc.2⟩
      · rintro (h | ⟨h, _⟩)
        · exact .inl h
        · exact .inr h
    · rename_i hc
      refine ⟨hs, fun x => ?_⟩
      constructor
      · exact .inl
      · rintro (h | ⟨rfl, h1, h2⟩)
        · exact h
        · exact absurd (by rw [h1, h2]; rfl) hc
  obtain ⟨h1, h2⟩ := foldl_mem (Good := SS) (C := fun (c : S67) x => ∃ n ∈ List.range (form.size + 1), x = form.extract 0 n ++ c.fCut ∧ wordS x = true ∧ hasForm p x form = true) p.fCells [] (fun s c _ hs => inner c.fCut s hs) List.Pairwise.nil
  refine ⟨h1, fun b => (h2 b).trans ?_⟩
  simp
theorem bases_eq (p : S23) (form : ByteArray) (hf : wordS form = true) : compactS (sortS (p.fCells.filterMap fun c => changeS form c.fAdd c.fCut)) = basesRef p form := by
  obtain ⟨h1, h2⟩ := setS_spec (p.fCells.filterMap fun c => changeS form c.fAdd c.fCut)
  obtain ⟨h3, h4⟩ := basesRef_spec p form
  refine ss_ext h1 h3 fun b => ?_
  rw [h2, h4, List.mem_filterMap]
  constructor
  · rintro ⟨c, hc, hb⟩
    obtain ⟨g1, g2, g3⟩ := change_back hf hb
    refine ⟨c, hc, form.size - c.fAdd.size, List.mem_range.2 (by omega), g2.symm, changeS_word hb, ?_⟩
    unfold hasForm tabS
    rw [List.any_eq_true]
    exact ⟨⟨c.fTags, form⟩, List.mem_filterMap.2 ⟨c, hc, by unfold rowOf; rw [g1]; rfl⟩, by simp⟩
  · rintro ⟨c, hc, n, hn, rfl, hw, hh⟩
    unfold hasForm tabS at hh
    rw [List.any_eq_true] at hh
    obtain ⟨x, hx, hxf⟩ := hh
    obtain ⟨c', hc', hr⟩ := List.mem_filterMap.1 hx
    unfold rowOf at hr
    obtain ⟨s, hs, rfl⟩ := Option.map_eq_some_iff.1 hr
    have hsf : s = form := by simpa using hxf
    subst hsf
    exact ⟨c', hc', (change_back hw hs).1⟩
theorem bases_len (p : S23) (form : ByteArray) : (basesRef p form).length ≤ p.fCells.length * (form.size + 1) := by
  unfold basesRef
  have : ∀ (l : List S67) (s : List ByteArray), (l.foldl (fun out c => (List.range (form.size + 1)).foldl (stepB p form c.fCut) out) s).length ≤ s.length + l.length * (form.size + 1) := by
    intro l
    induction l with
    | nil => intro s; simp
    | cons c l ih =>
      intro s
      have h1 := row_len p form c.fCut (List.range (form.size + 1)) s
      have h2 := ih ((List.range (form.size + 1)).foldl (stepB p form c.fCut) s)
      rw [List.length_range] at h1
      simp only [List.foldl_cons, List.length_cons, Nat.add_mul, Nat.one_mul]
      omega
  have := this p.fCells []
  simpa using this
end Go.Abs
