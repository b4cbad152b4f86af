/-
  GUESS, the plain law: what the tree of suffixes holds.
-/
import Derived.Test.YtgieobehohljnaaDoorQA
section
namespace Go.Abs
open Go.Sort
set_option linter.unusedVariables false

abbrev Smp := List Int × ByteArray
/-- so many samples of the tag end so -/
def cntN (ys : List Smp) (p : List Int) (t : ByteArray) : Nat := ys.countP fun y => decide (y.2 = t) && decide (p <+: y.1)
theorem pre_eq {q p : List Int} {x : Int} {r : List Int} (h : q <+: p ++ x :: r) (hl : q.length = p.length + 1) : q = p ++ [x] := by
  have h2 : p ++ [x] <+: p ++ x :: r := ⟨r, by simp⟩
  obtain ⟨a, ha⟩ := h
  obtain ⟨b, hb⟩ := h2
  exact (List.append_inj (ha.trans hb.symm) (by simpa using hl)).1
theorem insFrom_cs (t : ByteArray) : ∀ (d : Nat) (g : Gz) (p l q : List Int), (insFrom t d g p l).cs q = if p.length < q.length ∧ q.length ≤ p.length + d ∧ q <+: p ++ l then bumpL t (g.cs q) else g.cs q
  | 0, g, p, l, q => by
    rw [if_neg (by omega)]; rfl
  | d + 1, g, p, [], q => by
    rw [if_neg]
    · rfl
    · rintro ⟨h1, _, h3⟩
      have := h3.length_le
      simp at this; omega
  | d + 1, g, p, x :: r, q => by
    show (insFrom t d ((g.addK p x).bump (p ++ [x]) t) (p ++ [x]) r).cs q = _
    rw [insFrom_cs t d _ (p ++ [x]) r q]
    have e : (p ++ [x]) ++ r = p ++ x :: r := by simp
    rw [e]
    by_cases hq : q = p ++ [x]
    · subst hq
      rw [if_neg (by omega), if_pos ⟨by simp, by simp, ⟨r, by simp⟩⟩]
      simp [Gz.bump, Gz.addK]
    · have hg : ((g.addK p x).bump (p ++ [x]) t).cs q = g.cs q := by simp [Gz.bump, Gz.addK, hq]
      rw [hg]
      by_cases hc : p.length < q.length ∧ q.length ≤ p.length + (d + 1) ∧ q <+: p ++ x :: r
      · have hne : q.length ≠ p.length + 1 := fun h => hq (pre_eq hc.2.2 h)
        rw [if_pos hc, if_pos ⟨by simp; omega, by simp; omega, hc.2.2⟩]
      · rw [if_neg hc, if_neg]
        rintro ⟨h1, h2, h3⟩
        simp at h1 h2
        exact hc ⟨by omega, by omega, h3⟩
theorem addK_mem' (g : Gz) (p q : List Int) (x z : Int) : z ∈ (g.addK p x).ks q ↔ z ∈ g.ks q ∨ (q = p ∧ z = x) := by
  simp only [Gz.addK]
  by_cases hq : q = p
  · subst hq
    simp only [if_true, true_and]
    by_cases hx : x ∈ g.ks q
    · rw [if_pos hx]
      exact ⟨.inl, fun h => h.elim id fun e => e ▸ hx⟩
    · rw [if_neg hx]; simp
  · rw [if_neg hq]
    exact ⟨.inl, fun h => h.elim id fun e => absurd e.1 hq⟩
theorem insFrom_ks (t : ByteArray) : ∀ (d : Nat) (g : Gz) (p l q : List Int) (z : Int), z ∈ (insFrom t d g p l).ks q ↔ z ∈ g.ks q ∨ (p.length ≤ q.length ∧ q.length < p.length + d ∧ q ++ [z] <+: p ++ l)
  | 0, g, p, l, q, z => by
    show z ∈ g.ks q ↔ _
    exact ⟨.inl, fun h => h.elim id fun h => by omega⟩
  | d + 1, g, p, [], q, z => by
    show z ∈ g.ks q ↔ _
    refine ⟨.inl, fun h => h.elim id fun ⟨h1, _, h3⟩ => ?_⟩
    have := h3.length_le
    simp at this; omega
  | d + 1, g, p, x :: r, q, z => by
    show z ∈ (insFrom t d ((g.addK p x).bump (p ++ [x]) t) (p ++ [x]) r).ks q ↔ _
    rw [insFrom_ks t d _ (p ++ [x]) r q z]
    have e : (p ++ [x]) ++ r = p ++ x :: r := by simp
    rw [e]
    have hk : z ∈ ((g.addK p x).bump (p ++ [x]) t).ks q ↔ z ∈ g.ks q ∨ (q = p ∧ z = x) := addK_mem' g p q x z
    rw [hk]
    simp only [List.length_append, List.length_singleton]
    constructor
    · rintro ((h | ⟨rfl, rfl⟩) | ⟨h1, h2, h3⟩)
      · exact .inl h
      · exact .inr ⟨Nat.le_refl _, by omega, ⟨r, by simp⟩⟩
      · exact .inr ⟨by omega, by omega, h3⟩
    · rintro (h | ⟨h1, h2, h3⟩)
      · exact .inl (.inl h)
      · by_cases hl : q.length = p.length
        · have h4 := pre_eq h3 (by simp [hl])
          obtain ⟨e1, e2⟩ := List.append_inj' h4 rfl
          exact .inl (.inr ⟨e1, by simpa using e2⟩)
        · exact .inr ⟨by omega, by omega, h3⟩
theorem insG_cs (g : Gz) (y : Smp) (q : List Int) : (insG g y).cs q = if q.length ≤ 5 ∧ q <+: y.1 then bumpL y.2 (g.cs q) else g.cs q := by
  unfold insG
  rw [insFrom_cs]
  cases q with
  | nil =>
    rw [if_neg (by simp), if_pos ⟨by simp, List.nil_prefix⟩]
    simp [Gz.bump]
  | cons x r =>
    have hg : (g.bump [] y.2).cs (x :: r) = g.cs (x :: r) := by simp [Gz.bump]
    rw [hg]
    simp only [List.length_nil, Nat.zero_add, List.nil_append]
    by_cases hc : (x :: r).length ≤ 5 ∧ (x :: r) <+: y.1
    · rw [if_pos hc, if_pos ⟨by simp, hc.1, hc.2⟩]
    · rw [if_neg hc, if_neg fun h => hc ⟨h.2.1, h.2.2⟩]
theorem insG_ks (g : Gz) (y : Smp) (q : List Int) (z : Int) : z ∈ (insG g y).ks q ↔ z ∈ g.ks q ∨ (q.length < 5 ∧ q ++ [z] <+: y.1) := by
  unfold insG
  rw [insFrom_ks]
  have hg : (g.bump [] y.2).ks q = g.ks q := rfl
  rw [hg]
  simp
theorem cnt_bump (t t' : ByteArray) : ∀ l : List (ByteArray × Int), cnt t' (bumpL t l) = if t' = t then w64 (cnt t l + 1) else cnt t' l
  | [] => by
    by_cases h : t' = t
    · subst h; simp [bumpL, cnt]
    · have hb : (t'.toList == t.toList) = false := beqB'.2 h
      simp [bumpL, cnt, h, hb]
  | x :: r => by
    by_cases h1 : t = x.1
    · have hb : (t.toList == x.1.toList) = true := beqB.2 h1
      by_cases h : t' = t
      · subst h; simp [bumpL, cnt, hb]
      · have hb2 : (t'.toList == t.toList) = false := beqB'.2 h
        have hb3 : (t'.toList == x.1.toList) = false := beqB'.2 (h1 ▸ h)
        simp [bumpL, cnt, hb, hb2, hb3, h]
    · have hb : (t.toList == x.1.toList) = false := beqB'.2 h1
      have ih := cnt_bump t t' r
      by_cases h : t' = t
      · subst h; simpa [bumpL, cnt, hb] using ih
      · rw [if_neg h] at ih ⊢
        simp only [bumpL, hb, Bool.false_eq_true, if_false, cnt, ih]
theorem tags_bump (t : ByteArray) : ∀ (l : List (ByteArray × Int)) u, u ∈ (bumpL t l).map (·.1) ↔ u = t ∨ u ∈ l.map (·.1)
  | [], u => by simp [bumpL]
  | x :: r, u => by
    by_cases h1 : t = x.1
    · have hb : (t.toList == x.1.toList) = true := beqB.2 h1
      simp [bumpL, hb, h1]
    · have hb : (t.toList == x.1.toList) = false := beqB'.2 h1
      simp only [bumpL, hb, Bool.false_eq_true, if_false, List.map_cons, List.mem_cons, tags_bump t r u]
      constructor
      · rintro (h | h | h)
        · exact .inr (.inl h)
        · exact .inl h
        · exact .inr (.inr h)
      · rintro (h | h | h)
        · exact .inr (.inl h)
        · exact .inl h
        · exact .inr (.inr h)
theorem nd_bump (t : ByteArray) : ∀ (l : List (ByteArray × Int)), (l.map (·.1)).Nodup → ((bumpL t l).map (·.1)).Nodup
  | [], _ => by simp [bumpL]
  | x :: r, h => by
    simp only [List.map_cons, List.nodup_cons] at h
    by_cases h1 : t = x.1
    · have hb : (t.toList == x.1.toList) = true := beqB.2 h1
      subst h1
      simp only [bumpL, hb, if_true, List.map_cons, List.nodup_cons]
      exact h
    · have hb : (t.toList == x.1.toList) = false := beqB'.2 h1
      simp only [bumpL, hb, Bool.false_eq_true, if_false, List.map_cons, List.nodup_cons, tags_bump]
      exact ⟨fun e => e.elim (fun e => h1 e.symm) h.1, nd_bump t r h.2⟩
theorem pos_bump (t : ByteArray) (n : Int) (hn : n < 1000000) : ∀ (l : List (ByteArray × Int)), (∀ c ∈ l, 0 < c.2 ∧ c.2 ≤ n) → ∀ c ∈ bumpL t l, 0 < c.2
  | [], _, c, hc => by
    simp only [bumpL, List.mem_singleton] at hc
    subst hc
    show 0 < w64 (0 + 1)
    rw [w64_id ⟨by omega, by omega⟩]; omega
  | x :: r, h, c, hc => by
    have hx := h x List.mem_cons_self
    have hr : ∀ c ∈ r, 0 < c.2 ∧ c.2 ≤ n := fun c hc => h c (List.mem_cons_of_mem _ hc)
    simp only [bumpL] at hc
    split at hc
    · rcases List.mem_cons.1 hc with rfl | hc
      · show 0 < w64 (x.2 + 1)
        rw [w64_id ⟨by omega, by omega⟩]; omega
      · exact (hr c hc).1
    · rcases List.mem_cons.1 hc with rfl | hc
      · exact hx.1
      · exact pos_bump t n hn r hr c hc
theorem cnt_of_mem : ∀ {l : List (ByteArray × Int)} {c : ByteArray × Int}, (l.map (·.1)).Nodup → c ∈ l → cnt c.1 l = c.2
  | x :: r, c, hn, hc => by
    simp only [List.map_cons, List.nodup_cons] at hn
    rcases List.mem_cons.1 hc with rfl | hc
    · simp [cnt]
    · have hne : c.1 ≠ x.1 := fun e => hn.1 (e ▸ List.mem_map_of_mem hc)
      have hb : (c.1.toList == x.1.toList) = false := beqB'.2 hne
      simp only [cnt, hb, Bool.false_eq_true, if_false]
      exact cnt_of_mem hn.2 hc
theorem mem_of_cnt {t : ByteArray} : ∀ {l : List (ByteArray × Int)}, cnt t l ≠ 0 → (t, cnt t l) ∈ l
  | [], h => (h rfl).elim
  | x :: r, h => by
    by_cases h1 : t = x.1
    · have hb : (t.toList == x.1.toList) = true := beqB.2 h1
      subst h1
      simp only [cnt, hb, if_true]
      exact List.mem_cons_self
    · have hb : (t.toList == x.1.toList) = false := beqB'.2 h1
      simp only [cnt, hb, Bool.false_eq_true, if_false] at h ⊢
      exact List.mem_cons_of_mem _ (mem_of_cnt h)

structure GOk (ys : List Smp) (g : Gz) : Prop where
  cs : ∀ p, p.length ≤ 5 → ∀ t, cnt t (g.cs p) = (cntN ys p t : Int)
  pos : ∀ p, p.length ≤ 5 → ∀ c ∈ g.cs p, 0 < c.2
  nd : ∀ p, ((g.cs p).map (·.1)).Nodup
  ks : ∀ p, p.length < 5 → ∀ x, x ∈ g.ks p ↔ ∃ y ∈ ys, (p ++ [x]) <+: y.1
theorem cntN_le (ys : List Smp) (p : List Int) (t : ByteArray) : cntN ys p t ≤ ys.length := List.countP_le_length
theorem GOk.step {ys : List Smp} {g : Gz} (h : GOk ys g) (y : Smp) (hl : ys.length < 1000) : GOk (ys ++ [y]) (insG g y) := by
  refine ⟨fun p hp t => ?_, fun p hp c hc => ?_, fun p => ?_, fun p hp x => ?_⟩
  · rw [insG_cs]
    have hc := h.cs p hp
    have hle := cntN_le ys p t
    have e : cntN (ys ++ [y]) p t = cntN ys p t + if (decide (y.2 = t) && decide (p <+: y.1)) = true then 1 else 0 := by
      unfold cntN
      rw [List.countP_append, List.countP_singleton]
    rw [e]
    by_cases hpy : p <+: y.1
    · rw [if_pos ⟨hp, hpy⟩, cnt_bump]
      by_cases ht : t = y.2
      · subst ht
        rw [if_pos rfl, hc, w64_id ⟨by omega, by omega⟩]
        simp [hpy]
      · have : ¬ y.2 = t := fun e => ht e.symm
        rw [if_neg ht, hc]
        simp [this]
    · rw [if_neg fun h => hpy h.2, hc]
      simp [hpy]
  · rw [insG_cs] at hc
    split at hc
    · refine pos_bump y.2 1000 (by omega) (g.cs p) (fun c hc => ⟨h.pos p hp c hc, ?_⟩) c hc
      have h1 := cnt_of_mem (h.nd p) hc
      have h2 := h.cs p hp c.1
      have h3 := cntN_le ys p c.1
      omega
    · exact h.pos p hp c hc
  · rw [insG_cs]
    split
    · exact nd_bump _ _ (h.nd p)
    · exact h.nd p
  · rw [insG_ks, h.ks p hp]
    constructor
    · rintro (⟨z, hz, h1⟩ | ⟨_, h1⟩)
      · exact ⟨z, List.mem_append_left _ hz, h1⟩
      · exact ⟨y, by simp, h1⟩
    · rintro ⟨z, hz, h1⟩
      rcases List.mem_append.1 hz with hz | hz
      · exact .inl ⟨z, hz, h1⟩
      · simp at hz; subst hz; exact .inr ⟨hp, h1⟩
theorem buildG_ok (ys : List Smp) (hl : ys.length < 1000) : GOk ys (buildG ys) := by
  have key : ∀ (zs ys : List Smp) (g : Gz), GOk ys g → (ys ++ zs).length < 1000 → GOk (ys ++ zs) (zs.foldl insG g) := by
    intro zs
    induction zs with
    | nil => intro ys g h _; simpa using h
    | cons z r ih =>
      intro ys g h hl
      have e : ys ++ z :: r = (ys ++ [z]) ++ r := by simp
      rw [e] at hl ⊢
      exact ih _ _ (h.step z (by simp at hl; omega)) hl
  show GOk ys (ys.foldl insG Gz.empty)
  have := key ys [] Gz.empty ⟨fun p _ t => rfl, fun p _ c hc => (by cases hc), fun p => List.nodup_nil, fun p _ x => by simp [Gz.empty]⟩ (by simpa using hl)
  simpa using this
end Go.Abs
end
section
namespace Go.Abs
open Go.Sort Go.Proofs
set_option linter.unusedVariables false

theorem cnd_t' {α : Type} {b : Bool} {x y : Option α} (h : b = true) : cnd b x y = x := by subst h; rfl
/-! ### letters -/
def ltr (w : ByteArray) : List Int := castL ((ptsS w).getD [])
theorem wordS_spec {s : ByteArray} (h : wordS s = true) : ∃ L, ptsS s = some L ∧ 1 ≤ L.length ∧ L.length ≤ 30 ∧ s.size ≤ 4000 := by
  unfold wordS at h
  rw [Bool.and_eq_true] at h
  obtain ⟨h1, h2⟩ := h
  cases hp : ptsS s with
  | none => simp [hp] at h2
  | some L =>
    simp only [hp, okP, Bool.and_eq_true, decide_eq_true_eq] at h2
    exact ⟨L, rfl, h2.1.1, h2.1.2, of_decide_eq_true h1⟩
theorem ltr_len {w : ByteArray} (h : wordS w = true) : 1 ≤ (ltr w).length ∧ (ltr w).length ≤ 30 := by
  obtain ⟨L, h1, h2, h3, _⟩ := wordS_spec h
  simp only [ltr, h1, Option.getD_some, castL_len]
  exact ⟨h2, h3⟩
theorem f21_ok {m : Nat} (hm : 4001 < m) {w : ByteArray} (h : wordS w = true) : f21 m w = some (ltr w, ⟨0, 0⟩) := by
  obtain ⟨L, h1, h2, h3, h4⟩ := wordS_spec h
  rw [(f21_eq m w hm).1 L h4 h1]
  simp only [ltr, h1, Option.getD_some]
theorem f16_ok {m : Nat} (hm : 4001 < m) {w : ByteArray} (h : wordS w = true) : f16 m w = some (ltr w, ⟨0, 0⟩) := by
  obtain ⟨L, h1, h2, h3, h4⟩ := wordS_spec h
  rw [(f16_eq m w hm).1 L h4 h1]
  simp only [ltr, h1, Option.getD_some]
/-! ### the faults of samples -/
def sq (i : Int) (s : S39) : Option S27 := if !wordS s.fWord then some ⟨5, i⟩ else if !nameS s.fTag then some ⟨10, i⟩ else none
def firstFault {α : Type} (g : Int → α → Option S27) : Int → List α → Option S27
  | _, [] => none
  | i, x :: r => match g i x with
    | some f => some f
    | none => firstFault g (i + 1) r
def firstStep {α : Type} (g : Int → α → Option S27) (i : Int) (_ : Unit) (x : α) : Option (S27 ⊕ Unit) := match g i x with
  | some f => some (.inl f)
  | none => some (.inr ())
theorem scan_first {α : Type} (g : Int → α → Option S27) : ∀ (xs : List α) (i : Int), scan (firstStep g) i () xs = match firstFault g i xs with
    | some f => some (.inl f)
    | none => some (.inr ())
  | [], i => rfl
  | x :: r, i => by
    simp only [scan, firstFault, firstStep]
    cases hg : g i x with
    | some f => rfl
    | none => exact scan_first g r (i + 1)
def flt (a0 : List S39) : Option S27 := if a0.length > 300 then some ⟨2, -1⟩ else firstFault sq 0 a0
theorem ff_code : ∀ {l : List S39} {i : Int} {f : S27}, firstFault sq i l = some f → f.fCode ≠ 0
  | s :: r, i, f, h => by
    simp only [firstFault] at h
    cases hs : sq i s with
    | none => rw [hs] at h; exact ff_code h
    | some g =>
      rw [hs] at h
      cases h
      unfold sq at hs
      split at hs
      · cases hs; simp
      · split at hs
        · cases hs; simp
        · cases hs
theorem flt_code {a0 : List S39} {f : S27} (h : flt a0 = some f) : f.fCode ≠ 0 := by
  unfold flt at h
  split at h
  · cases h; decide
  · exact ff_code h
theorem ff_none : ∀ {l : List S39} {i : Int}, firstFault sq i l = none → ∀ s ∈ l, wordS s.fWord = true ∧ nameS s.fTag = true
  | s :: r, i, h, x, hx => by
    simp only [firstFault] at h
    cases hs : sq i s with
    | some g => rw [hs] at h; cases h
    | none =>
      rw [hs] at h
      rcases List.mem_cons.1 hx with rfl | hx
      · unfold sq at hs
        split at hs
        · cases hs
        · split at hs
          · cases hs
          · rename_i h1 h2
            exact ⟨by simpa using h1, by simpa using h2⟩
      · exact ff_none h x hx
theorem flt_none {a0 : List S39} (h : flt a0 = none) : a0.length ≤ 300 ∧ ∀ s ∈ a0, wordS s.fWord = true ∧ nameS s.fTag = true := by
  unfold flt at h
  split at h
  · cases h
  · exact ⟨by omega, ff_none h⟩
theorem ff_all : ∀ {l : List S39} {i : Int}, (∀ s ∈ l, wordS s.fWord = true ∧ nameS s.fTag = true) → firstFault sq i l = none
  | [], _, _ => rfl
  | s :: r, i, h => by
    obtain ⟨h1, h2⟩ := h s List.mem_cons_self
    simp only [firstFault, sq, h1, h2, Bool.not_true, Bool.false_eq_true, if_false]
    exact ff_all fun x hx => h x (List.mem_cons_of_mem _ hx)
theorem flt_of {a0 : List S39} (hl : a0.length ≤ 300) (h : ∀ s ∈ a0, wordS s.fWord = true ∧ nameS s.fTag = true) : flt a0 = none := by
  unfold flt
  rw [if_neg (by omega)]
  exact ff_all h
theorem vscan_eq : ∀ (l : List S39) (i : Nat), i + l.length ≤ 1000 → vscan MM l i = some (firstFault sq i l)
  | [], i, _ => rfl
  | s :: r, i, h => by
    simp only [List.length_cons] at h
    have hM : 4001 < MM := by decide
    have hw : w64 ((i : Int) + 1) = ((i + 1 : Nat) : Int) := by rw [w64_id ⟨by omega, by omega⟩]; omega
    simp only [vscan, f18_eq MM _ hM, f19_eq MM _ (by decide : 31 < MM), bnd_some', firstFault, sq, hw, vscan_eq r (i + 1) (by omega)]
    cases wordS s.fWord <;> cases nameS s.fTag <;> rfl
theorem f11_eq (m : Nat) (hm : 4001 < m) (a0 : List S39) : f11 m a0 = some ((flt a0).getD ⟨0, 0⟩) := by
  unfold f11 flt
  by_cases h : a0.length > 300
  · rw [decide_eq_true (by omega), if_pos h]; rfl
  · rw [decide_eq_false (by omega), if_neg h, cnd_false]
    have e : iter (fun (y : Int) => f11_B1 m a0 y) m 0 = landed (fun (_ : Unit) (i : Int) => i) a0.length (scan (firstStep sq) 0 () a0) := by
      refine iter_scan a0 (fun (y : Int) => f11_B1 m a0 y) (fun (_ : Unit) (i : Int) => i) _ (fun u k hi => ?_) m 0 () (by omega) (by omega)
      unfold f11_B1
      refine body_turn rfl fun x hx => ?_
      have hw : w64 ((k : Int) + 1) = (k : Int) + 1 := w64_id ⟨by omega, by omega⟩
      simp only [f13_eq m _ hm, f22_eq m _ (by omega : 31 < m), bnd_some', firstStep, sq, hw]
      cases wordS x.fWord <;> cases nameS x.fTag <;> rfl
    rw [e, scan_first]
    cases firstFault sq 0 a0 <;> rfl
/-! ### Build -/
def ysOf (a0 : List S39) : List Smp := a0.map fun s => ((ltr s.fWord).reverse, s.fTag)
theorem pscan_eq : ∀ (l : List S39), (∀ s ∈ l, wordS s.fWord = true) → pscan MM l = some (ysOf l)
  | [], _ => rfl
  | s :: r, h => by
    simp only [pscan, f21_ok (by decide : 4001 < MM) (h s List.mem_cons_self), bnd_some', pscan_eq r fun x hx => h x (List.mem_cons_of_mem _ hx)]
    rfl
theorem f10_bad (m : Nat) {a0 : List S39} {f : S27} (hb : a0.length ≤ big62) (h : flt a0 = some f) : f10 m a0 = some (⟨none⟩, f) := by
  unfold f10
  rw [decide_eq_true hb, cnd_true]
  unfold flt at h
  split at h
  · rename_i hl
    rw [if_pos hl]; cases h; rfl
  · rename_i hl
    have := vscan_eq a0 0 (by omega)
    rw [if_neg hl]
    have e : vscan MM a0 0 = some (firstFault sq 0 a0) := this
    rw [e, h]; rfl
theorem f10_good (m : Nat) {a0 : List S39} (h : flt a0 = none) : f10 m a0 = some (⟨some (buildG (ysOf a0))⟩, ⟨0, 0⟩) := by
  obtain ⟨hl, hall⟩ := flt_none h
  unfold f10
  rw [decide_eq_true (by unfold big62; omega), cnd_true, if_neg (by omega)]
  have e : vscan MM a0 0 = some (firstFault sq 0 a0) := vscan_eq a0 0 (by omega)
  rw [e, ff_all hall]
  simp only [bnd_some', pscan_eq a0 fun s hs => (hall s hs).1]
  rw [cnd_t']
  · rw [List.all_eq_true]
    intro y hy
    obtain ⟨s, hs, rfl⟩ := List.mem_map.1 hy
    have := ltr_len (hall s hs).1
    simp only [List.length_reverse, decide_eq_true_eq, big62]
    omega
/-! ### the way down the tree -/
/-- the best guesses of the first k levels -/
def Pm (ys : List Smp) (rl : List Int) (k : Nat) (x : S44) : Prop := ∃ i : Nat, i < k ∧ x.fLength = (i : Int) ∧ x.fCount = (cntN ys (rl.take i) x.fTag : Int) ∧ 0 < cntN ys (rl.take i) x.fTag ∧ ∀ i', i < i' → i' < k → cntN ys (rl.take i') x.fTag = 0
theorem Pm.step {ys : List Smp} {g : Gz} (hg : GOk ys g) {rl : List Int} {k : Nat} (hk : k ≤ 5) (hkl : k ≤ rl.length) (x : S44) : onC (k : Int) (g.cs (rl.take k)) (Pm ys rl k) x ↔ Pm ys rl (k + 1) x := by
  have hp : (rl.take k).length ≤ 5 := by rw [List.length_take]; omega
  have hmem : ∀ c : ByteArray × Int, c ∈ g.cs (rl.take k) ↔ c.2 = (cntN ys (rl.take k) c.1 : Int) ∧ 0 < cntN ys (rl.take k) c.1 := by
    intro c
    have h2 := hg.cs _ hp c.1
    constructor
    · intro hc
      have h1 := cnt_of_mem (hg.nd _) hc
      have h3 := hg.pos _ hp c hc
      omega
    · rintro ⟨h1, h3⟩
      have := mem_of_cnt (t := c.1) (l := g.cs (rl.take k)) (by omega)
      rw [h2, ← h1] at this
      exact this
  unfold onC
  constructor
  · rintro (⟨c, hc, rfl⟩ | ⟨⟨i, h1, h2, h3, h4, h5⟩, ha⟩)
    · obtain ⟨h1, h2⟩ := (hmem c).1 hc
      exact ⟨k, by omega, rfl, h1, h2, fun i' h3 h4 => by omega⟩
    · refine ⟨i, by omega, h2, h3, h4, fun i' h6 h7 => ?_⟩
      by_cases e : i' = k
      · subst e
        rcases Nat.eq_zero_or_pos (cntN ys (rl.take i') x.fTag) with h | h
        · exact h
        · exact absurd rfl (ha (x.fTag, (cntN ys (rl.take i') x.fTag : Int)) ((hmem _).2 ⟨rfl, h⟩))
      · exact h5 i' h6 (by omega)
  · rintro ⟨i, h1, h2, h3, h4, h5⟩
    by_cases e : i = k
    · subst e
      refine .inl ⟨(x.fTag, x.fCount), (hmem _).2 ⟨h3, h4⟩, ?_⟩
      cases x; simp only at h2; subst h2; rfl
    · refine .inr ⟨⟨i, by omega, h2, h3, h4, fun i' h6 h7 => h5 i' h6 (by omega)⟩, fun c hc he => ?_⟩
      have h6 := h5 k (by omega) (by omega)
      have h7 := ((hmem c).1 hc).2
      rw [← he] at h7
      omega
theorem Pm.stop {ys : List Smp} {rl : List Int} {k n : Nat} (hk : k ≤ n) (hz : ∀ i, k ≤ i → i < n → ∀ t, cntN ys (rl.take i) t = 0) (x : S44) : Pm ys rl k x ↔ Pm ys rl n x := by
  constructor
  · rintro ⟨i, h1, h2, h3, h4, h5⟩
    refine ⟨i, by omega, h2, h3, h4, fun i' h6 h7 => ?_⟩
    by_cases e : i' < k
    · exact h5 i' h6 e
    · exact hz i' (by omega) h7 _
  · rintro ⟨i, h1, h2, h3, h4, h5⟩
    have hik : i < k := by
      rcases Nat.lt_or_ge i k with h | h
      · exact h
      · rw [hz i h h1] at h4; omega
    exact ⟨i, hik, h2, h3, h4, fun i' h6 h7 => h5 i' h6 (by omega)⟩
theorem cntsOf_e {l : List (ByteArray × Int)} (h : (l.map (·.1)).Nodup) : cntsOf (l.map fun x => .str x.1) (l.map fun x => .int .i64 x.2) = some l := by
  have e : cntsRaw (l.map fun x => .str x.1) (l.map fun x => .int .i64 x.2) = some l := cntsRaw_e l
  unfold cntsOf
  rw [e, bnd_some', cnd_t']
  unfold tagsOk
  refine decide_eq_true ?_
  rw [List.Nodup, List.pairwise_map] at h ⊢
  exact h.imp fun {a b} hne e => hne (beqB.1 (by rw [e]; simp))
theorem nextV_in {ks : List Int} {f : Int → V} {x : Int} (h : x ∈ ks) : nextV (ks.map fun y => .int .i64 y) (ks.map f) x = some (f x) := by
  unfold nextV
  rw [find_int]
  obtain ⟨q, h1, h2⟩ := fidx_mem h 0
  simp only [h1, Nat.zero_add, List.getElem?_map, h2, Option.map_some]
theorem nextV_out {ks : List Int} {f : Int → V} {x : Int} (h : x ∉ ks) : nextV (ks.map fun y => .int .i64 y) (ks.map f) x = some .nilptr := by
  unfold nextV
  rw [find_int, fidx_nmem h]
abbrev Bp (ys : List Smp) (rl : List Int) : S44 → Prop := Pm ys rl (min 5 rl.length + 1)
theorem walk_tree {ys : List Smp} {g : Gz} (hg : GOk ys g) (rl : List Int) : ∀ (d k : Nat) (best : List S44), d + k = 5 → k ≤ rl.length → BInv best (Pm ys rl k) → ∃ lf, walkV d (treeV g d (rl.take k)) (rl.drop k) (k : Int) best = some lf ∧ BInv lf (Bp ys rl)
  | 0, k, best, hd, hk, hb => by
    have hk5 : k = 5 := by omega
    have h1 := addC_inv (lvl := (k : Int)) (g.cs (rl.take k)) [] (by simpa using hg.nd _) (hb.congr fun x => onC_nil x)
    rw [List.nil_append] at h1
    refine ⟨addC k best (g.cs (rl.take k)), ?_, ?_⟩
    · show bnd (cntsOf _ _) (fun l => some (addC k best l)) = _
      rw [cntsOf_e (hg.nd _)]; rfl
    · have := h1.congr fun x => Pm.step hg (by omega) hk x
      have e : min 5 rl.length + 1 = k + 1 := by omega
      unfold Bp
      rw [e]; exact this
  | d + 1, k, best, hd, hk, hb => by
    have h1 := addC_inv (lvl := (k : Int)) (g.cs (rl.take k)) [] (by simpa using hg.nd _) (hb.congr fun x => onC_nil x)
    rw [List.nil_append] at h1
    have h2 := h1.congr fun x => Pm.step hg (by omega) hk x
    by_cases hlt : k < rl.length
    · have hdrop : rl.drop k = rl[k] :: rl.drop (k + 1) := List.drop_eq_getElem_cons hlt
      have htake : rl.take (k + 1) = rl.take k ++ [rl[k]] := by
        rw [List.take_add_one, List.getElem?_eq_getElem hlt]; rfl
      have e0 : walkV (d + 1) (treeV g (d + 1) (rl.take k)) (rl.drop k) (k : Int) best = bnd (nextV ((g.ks (rl.take k)).map fun x => .int .i64 x) ((g.ks (rl.take k)).map fun x => treeV g d (rl.take k ++ [x])) rl[k]) fun n => walkV d n (rl.drop (k + 1)) ((k : Int) + 1) (addC k best (g.cs (rl.take k))) := by
        rw [hdrop]
        show bnd (cntsOf _ _) (fun l => bnd (nextV _ _ rl[k]) fun n => walkV d n (rl.drop (k + 1)) ((k : Int) + 1) (addC k best l)) = _
        rw [cntsOf_e (hg.nd _)]; rfl
      rw [e0]
      by_cases hx : rl[k] ∈ g.ks (rl.take k)
      · rw [nextV_in (f := fun x => treeV g d (rl.take k ++ [x])) hx, bnd_some', ← htake]
        exact walk_tree hg rl d (k + 1) _ (by omega) hlt h2
      · rw [nextV_out hx, bnd_some']
        refine ⟨addC k best (g.cs (rl.take k)), by cases d <;> rfl, h2.congr fun x => Pm.stop (by omega) (fun i hi1 hi2 t => ?_) x⟩
        have hno : ∀ y ∈ ys, ¬ (rl.take (k + 1) <+: y.1) := by
          intro y hy hp
          rw [htake] at hp
          exact hx ((hg.ks _ (by rw [List.length_take]; omega) _).2 ⟨y, hy, hp⟩)
        unfold cntN
        rw [List.countP_eq_zero]
        intro y hy he
        rw [Bool.and_eq_true] at he
        have h3 := of_decide_eq_true he.2
        refine hno y hy (List.IsPrefix.trans ?_ h3)
        exact List.take_prefix_take_left hi1
    · have hke : k = rl.length := by omega
      refine ⟨addC k best (g.cs (rl.take k)), ?_, ?_⟩
      · have hdn : rl.drop k = [] := List.drop_eq_nil_of_le (by omega)
        rw [hdn]
        show bnd (cntsOf _ _) (fun l => some (addC k best l)) = _
        rw [cntsOf_e (hg.nd _)]; rfl
      · have e : min 5 rl.length + 1 = k + 1 := by omega
        unfold Bp
        rw [e]; exact h2
/-! ### Rank -/
structure Rk (ys : List Smp) (rl : List Int) (r : List S44) : Prop where
  inv : BInv r (Bp ys rl)
  srt : r.Pairwise fun a b => ltOf cmpG b a = false
theorem Rk.uniq {ys : List Smp} {rl : List Int} {r r' : List S44} (h : Rk ys rl r) (h' : Rk ys rl r') : r = r' := srt_uniq (h.inv.perm h'.inv) h.srt h'.srt
theorem len_sub {α : Type} : ∀ {l l' : List α}, l.Nodup → (∀ x ∈ l, x ∈ l') → l.length ≤ l'.length
  | [], _, _, _ => Nat.zero_le _
  | x :: r, l', hn, h => by
    simp only [List.nodup_cons] at hn
    obtain ⟨a, b, rfl⟩ := List.append_of_mem (h x List.mem_cons_self)
    have := len_sub (l' := a ++ b) hn.2 fun y hy => by
      have := h y (List.mem_cons_of_mem _ hy)
      simp only [List.mem_append, List.mem_cons] at this ⊢
      rcases this with h | h | h
      · exact .inl h
      · subst h; exact absurd hy hn.1
      · exact .inr h
    simp only [List.length_append, List.length_cons] at this ⊢
    omega
theorem Pm.tag {ys : List Smp} {rl : List Int} {k : Nat} {x : S44} (h : Pm ys rl k x) : x.fTag ∈ ys.map (·.2) := by
  obtain ⟨i, _, _, _, h4, _⟩ := h
  obtain ⟨y, hy, he⟩ := List.countP_pos_iff.1 h4
  rw [Bool.and_eq_true] at he
  have := of_decide_eq_true he.1
  rw [← this]
  exact List.mem_map_of_mem hy
theorem BInv.len {ys : List Smp} {rl : List Int} {k : Nat} {l : List S44} (h : BInv l (Pm ys rl k)) : l.length ≤ ys.length := by
  have := len_sub h.1 (l' := ys.map (·.2)) fun t ht => by
    obtain ⟨x, hx, rfl⟩ := List.mem_map.1 ht
    exact Pm.tag ((h.2 x).1 hx)
  simpa using this
theorem f12_word (m : Nat) (g : S25) {w : ByteArray} (h : wordS w = false) : f12 m g w = some ([], ⟨5, -1⟩) := by
  unfold f12 rankV
  rw [f18_eq MM w (by decide), h]
  rfl
theorem f12_none (m : Nat) {w : ByteArray} (h : wordS w = true) : f12 m ⟨none⟩ w = some ([], ⟨0, 0⟩) := by
  unfold f12 rankV
  have hl := ltr_len h
  rw [f18_eq MM w (by decide), h, bnd_some', f21_ok (by decide) h]
  simp only [Bool.not_true, cnd_false, bnd_some']
  rw [decide_eq_true (by unfold big62; omega), cnd_true]
  show (bnd (some ([] : List S44)) fun l => cnd (decide (l.length ≤ 1000000)) (some (srtG l, (⟨0, 0⟩ : S27))) none) = _
  simp [srtG, bnd, cnd]
theorem f12_good (m : Nat) {ys : List Smp} (hy : ys.length ≤ 300) {w : ByteArray} (h : wordS w = true) : ∃ r, f12 m ⟨some (buildG ys)⟩ w = some (r, ⟨0, 0⟩) ∧ Rk ys (ltr w).reverse r := by
  have hl := ltr_len h
  have hg := buildG_ok ys (by omega)
  obtain ⟨lf, h1, h2⟩ := walk_tree hg (ltr w).reverse 5 0 [] (by omega) (Nat.zero_le _) ⟨List.nodup_nil, fun x => ⟨fun h => (by cases h), fun ⟨i, hi, _⟩ => (by omega)⟩⟩
  have hlen := h2.len
  refine ⟨srtG lf, ?_, ⟨?_, ?_⟩, srtG_sorted lf⟩
  · unfold f12 rankV
    rw [f18_eq MM w (by decide), h, bnd_some', f21_ok (by decide) h]
    simp only [Bool.not_true, cnd_false, bnd_some']
    rw [decide_eq_true (by unfold big62; omega), cnd_true]
    have h1' : walkV 5 (eGz (some (buildG ys))) (ltr w).reverse 0 [] = some lf := h1
    rw [h1', bnd_some', decide_eq_true (by omega), cnd_true]
  · exact ((srtG_perm lf).map (·.fTag)).nodup_iff.2 h2.1
  · exact fun x => ((srtG_perm lf).mem_iff).trans (h2.2 x)
end Go.Abs
end
section
namespace Go.Abs
open Go.Sort Go.Proofs
set_option linter.unusedVariables false

theorem f14_refl (m : Nat) (l : List S44) (hl : l.length ≤ 4000) (hm : 4001 < m) : f14 m l l = some true := by
  unfold f14
  have hb : ((l.length : Int) != (l.length : Int)) = false := by simp
  rw [hb, cnd_false]
  have e : iter (fun (y : Int) => f14_B1 m l l y) m 0 = landed (fun (_ : Unit) (i : Int) => i) l.length (scan (R := Bool) (fun _ (_ : Unit) x => if true then some (.inr ()) else some (.inl false)) 0 () l) := by
    refine iter_scan l (fun (y : Int) => f14_B1 m l l y) (fun (_ : Unit) (i : Int) => i) _ (fun u k hi => ?_) m 0 () (by omega) (by omega)
    unfold f14_B1
    refine body_turn rfl fun x hx => ?_
    have hw : w64 ((k : Int) + 1) = (k : Int) + 1 := w64_id ⟨by omega, by omega⟩
    rw [idx_get, hx]
    simp [hw]
  rw [e, scan_all (fun _ => true)]
  simp [landed]
/-! ### the guessed example -/
abbrev exS : List S39 := [(⟨(⟨#[99, 97, 116, 115]⟩ : ByteArray), (⟨#[112, 108]⟩ : ByteArray)⟩ : S39), (⟨(⟨#[99, 97, 116]⟩ : ByteArray), (⟨#[115, 103]⟩ : ByteArray)⟩ : S39)]
abbrev exW : ByteArray := ⟨#[100, 111, 103, 115]⟩
abbrev exG : List S44 := [(⟨(⟨#[112, 108]⟩ : ByteArray), 1, 1⟩ : S44), (⟨(⟨#[115, 103]⟩ : ByteArray), 0, 1⟩ : S44)]
theorem ex_flt : flt exS = none := by
  refine flt_of (by decide) fun s hs => ?_
  rcases List.mem_cons.1 hs with rfl | hs
  · exact ⟨by kernel_rfl, by kernel_rfl⟩
  · rcases List.mem_cons.1 hs with rfl | hs
    · exact ⟨by kernel_rfl, by kernel_rfl⟩
    · cases hs
theorem ex_word : wordS exW = true := by kernel_rfl
theorem ex_walk : walkV 5 (eGz (some (buildG (ysOf exS)))) (ltr exW).reverse 0 [] = some exG := by kernel_rfl
theorem ex_rank (m : Nat) : f12 m ⟨some (buildG (ysOf exS))⟩ exW = some (exG, ⟨0, 0⟩) := by
  unfold f12 rankV
  have hl := ltr_len ex_word
  rw [f18_eq MM exW (by decide), ex_word, bnd_some', f21_ok (by decide) ex_word]
  simp only [Bool.not_true, cnd_false, bnd_some']
  rw [decide_eq_true (by unfold big62; omega), cnd_true, ex_walk, bnd_some']
  rw [decide_eq_true (by decide), cnd_true]
  have : srtG exG = exG := srt_uniq (srtG_perm exG) (srtG_sorted exG) (by
    refine List.pairwise_cons.2 ⟨fun y hy => ?_, by simp⟩
    rcases List.mem_cons.1 hy with rfl | hy
    · kernel_rfl
    · cases hy)
  rw [this]
theorem f9_true (m : Nat) (hm : 4001 < m) : f9 m = some true := by
  unfold f9
  rw [f10_good m ex_flt, bnd_some', ex_rank m]
  simp only [bnd_some', f9_r2, f9_r1]
  rw [f14_refl m exG (by decide) hm]
  rfl
/-! ### samples in whatever order -/
theorem cntN_perm {ys ys' : List Smp} (h : ys.Perm ys') (p : List Int) (t : ByteArray) : cntN ys p t = cntN ys' p t := h.countP_eq _
theorem Rk.perm {ys ys' : List Smp} (h : ys.Perm ys') {rl : List Int} {r : List S44} (hr : Rk ys rl r) : Rk ys' rl r := by
  refine ⟨hr.inv.congr fun x => ?_, hr.srt⟩
  unfold Bp Pm
  simp only [cntN_perm h]
theorem isz_f (f : S27) : ((f.fCode == 0) && ((f.fIndex == 0) && true)) = true ↔ f = ⟨0, 0⟩ := by
  cases f; simp
theorem isz_no {f : S27} (h : f.fCode ≠ 0) : ((f.fCode == 0) && ((f.fIndex == 0) && true)) = false := by
  have : (f.fCode == 0) = false := by simpa using h
  rw [this]; rfl
theorem big_of {a0 : List S39} (h : a0.length ≤ maxLen) : a0.length ≤ big62 := Nat.le_trans h (by decide)
theorem Rk.len {ys : List Smp} {rl : List Int} {r : List S44} (h : Rk ys rl r) : r.length ≤ ys.length := h.inv.len
theorem ysOf_len (a0 : List S39) : (ysOf a0).length = a0.length := List.length_map _
end Go.Abs
end
section
namespace Go.Abs
open Go.Sort Go.Proofs
set_option linter.unusedVariables false

theorem Pm.cover {ys : List Smp} {rl : List Int} {t : ByteArray} {i : Nat} (h : 0 < cntN ys (rl.take i) t) : ∀ n, i ≤ n → ∃ x, x.fTag = t ∧ Pm ys rl (n + 1) x ∧ (i : Int) ≤ x.fLength ∧ (x.fLength = (i : Int) → x.fCount = (cntN ys (rl.take i) t : Int))
  | n, hn => by
    by_cases he : n = i
    · subst he
      exact ⟨⟨t, (n : Int), (cntN ys (rl.take n) t : Int)⟩, rfl, ⟨n, by omega, rfl, rfl, h, fun i' h1 h2 => by omega⟩, Int.le_refl _, fun _ => rfl⟩
    · match n, hn, he with
      | 0, hn, he => omega
      | n + 1, hn, he =>
        rcases Nat.eq_zero_or_pos (cntN ys (rl.take (n + 1)) t) with hz | hp
        · obtain ⟨x, e, ⟨j, h1, h2, h3, h4, h5⟩, h6, h7⟩ := Pm.cover h n (by omega)
          refine ⟨x, e, ⟨j, by omega, h2, h3, h4, fun i' g1 g2 => ?_⟩, h6, h7⟩
          by_cases hi : i' = n + 1
          · subst hi; rw [e]; exact hz
          · exact h5 i' g1 (by omega)
        · refine ⟨⟨t, ((n + 1 : Nat) : Int), (cntN ys (rl.take (n + 1)) t : Int)⟩, rfl, ⟨n + 1, by omega, rfl, rfl, hp, fun i' h1 h2 => by omega⟩, by simp only; omega, fun e => by simp only at e; omega⟩
theorem head_long {r : List S44} {x y : S44} (hs : (x :: r).Pairwise fun a b => ltOf cmpG b a = false) (hy : y ∈ x :: r) : y.fLength ≤ x.fLength := by
  rcases List.mem_cons.1 hy with rfl | hy
  · exact Int.le_refl _
  · have := (List.pairwise_cons.1 hs).1 y hy
    rw [ltG_false] at this
    rcases this with h | ⟨h, _⟩ <;> omega
end Go.Abs
end
