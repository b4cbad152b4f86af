/-
  LEXICON ENTRIES, the plain laws: those with few items are among those with more.
-/
import Derived.Test.YthjhdnonlkooiaaDoorLP3
import Derived.Test.YthjhdnonlkooiaaDoorWF2
namespace Go.Abs
open Go.Sort Go.Proofs
set_option linter.unusedVariables false

/-! ### in order, none twice -/
theorem goC_strict : ∀ (r : List S61) (p : S61), (p :: r).Pairwise (fun a b => ltOf cmpE b a = false) → (p :: goC p r).Pairwise (fun a b => cmpE a b < 0) ∧ ∀ z, z ∈ p :: goC p r ↔ z ∈ p :: r
  | [], p, _ => ⟨by simp [goC], fun z => by simp [goC]⟩
  | y :: r, p, h => by
    by_cases hc : cmpE y p = 0
    · obtain rfl := (toE.eq y p).1 hc
      rw [goC_eq hc]
      obtain ⟨h1, h2⟩ := goC_strict r y (List.pairwise_cons.1 h).2
      refine ⟨h1, fun z => ?_⟩
      rw [h2 z]
      simp
    · rw [goC_ne hc]
      obtain ⟨h1, h2⟩ := goC_strict r y (List.pairwise_cons.1 h).2
      have hp := (List.pairwise_cons.1 h).1
      have hlt : cmpE p y < 0 := by
        have := TO.lt_false (c := cmpE) y p |>.1 (hp y List.mem_cons_self)
        exact (toE.sw p y).2 (by omega)
      refine ⟨List.pairwise_cons.2 ⟨fun z hz => ?_, h1⟩, fun z => ?_⟩
      · rcases List.mem_cons.1 hz with rfl | hz'
        · exact hlt
        · exact toE.tr p y z hlt ((List.pairwise_cons.1 h1).1 z hz')
      · rw [List.mem_cons, h2 z, List.mem_cons (a := z) (b := p)]
theorem compactL_strict {l : List S61} (h : l.Pairwise (fun a b => ltOf cmpE b a = false)) : (compactL l).Pairwise (fun a b => cmpE a b < 0) ∧ ∀ z, z ∈ compactL l ↔ z ∈ l := by
  cases l with
  | nil => exact ⟨List.Pairwise.nil, fun z => Iff.rfl⟩
  | cons p r => exact goC_strict r p h
/-! ### the entries -/
structure Ent (l : List S88) (k : Nat) (o : List S61) : Prop where
  ord : o.Pairwise fun a b => cmpE a b < 0
  len : o.length ≤ 300
  tags : ∀ y ∈ o, y.fTags.length ≤ 124
  mem : ∀ z, z ∈ o ↔ Rch l k 0 zE z
theorem finE_ok {l : List S88} {k : Nat} {s : Fst} (h : GF s) (hm : ∀ z, z ∈ s.1 ↔ Rch l k 0 zE z) : finE s.1 = some ([], ⟨17, -1⟩) ∨ ∃ o, finE s.1 = some (o, ⟨0, 0⟩) ∧ Ent l k o := by
  obtain ⟨h1, h2, h3, h4⟩ := h
  have hs : smallL s.1 = true := by
    unfold smallL
    rw [Bool.and_eq_true, List.all_eq_true]
    exact ⟨decide_eq_true (by omega), fun y hy => decide_eq_true (by have := h4 y hy; omega)⟩
  unfold finE
  rw [hs, cnd_true]
  obtain ⟨g1, g2⟩ := compactL_strict (srtC_sorted toE s.1)
  by_cases hc : ((compactL (srtC cmpE s.1)).length : Int) > 300
  · rw [decide_eq_true hc, cnd_true]; exact .inl rfl
  · rw [decide_eq_false hc, cnd_false]
    have hmem : ∀ z, z ∈ compactL (srtC cmpE s.1) ↔ z ∈ s.1 := fun z => by rw [g2 z]; exact (srtC_perm s.1).mem_iff
    exact .inr ⟨_, rfl, g1, by omega, fun y hy => h4 y ((hmem y).1 hy), fun z => by rw [hmem z, hm z]⟩
theorem entriesL_ok (l : S51) (most : Int) : (∃ f : S27, entriesL l most = some ([], f) ∧ isz f = false) ∨ ∃ o, entriesL l most = some (o, ⟨0, 0⟩) ∧ 1 ≤ most ∧ Ent l.fClasses most.toNat o := by
  unfold entriesL
  rw [f52_eq MM l (by decide), bnd_some']
  by_cases hf : (lexF l.fClasses).fCode = 0
  · obtain ⟨⟨h1, h2, h3⟩, he⟩ := lexF_ok hf
    rw [he]
    have hz : isz ⟨0, 0⟩ = true := rfl
    rw [hz, Bool.not_true, cnd_false]
    by_cases hr : most < 1 ∨ most > 30
    · have : (decide (most < 1) || decide (most > 30)) = true := by simpa using hr
      rw [this, cnd_true]
      exact .inl ⟨_, rfl, rfl⟩
    · have : (decide (most < 1) || decide (most > 30)) = false := by
        rw [← Bool.not_eq_true]; simpa using hr
      rw [this, cnd_false]
      have hil : (l.fClasses.all fun c => decide (c.fItems.length ≤ 1000000)) = true := List.all_eq_true.2 fun c hc => decide_eq_true (by have := h2 c hc; omega)
      rw [hil, cnd_true]
      have hb : Bd (30 - most.toNat) zE := ⟨by show (0 : Nat) ≤ _; omega, by show (0 : Nat) ≤ _; omega, by show (0 : Nat) ≤ _; omega⟩
      obtain ⟨p, p1, p2, p3⟩ := followL_ok (m := MM) (by decide) l.fClasses (fun c hc x hx => itemBad_ok (h3 c hc x hx)) most.toNat (by omega) 0 zE ([], 0) (by omega) (by omega) hb ⟨Int.le_refl _, by decide, by decide, fun y hy => nomatch hy⟩ (by decide)
      rw [p1, bnd_some']
      cases hp : p.1 with
      | false => exact .inl ⟨_, rfl, rfl⟩
      | true =>
        rw [Bool.not_true, cnd_false]
        rcases finE_ok (l := l.fClasses) (k := most.toNat) p2 (fun z => by rw [(p3 hp).2 z]; simp) with h | ⟨o, h, ho⟩
        · exact .inl ⟨_, h, rfl⟩
        · exact .inr ⟨o, h, by omega, ho⟩
  · have hz : isz (lexF l.fClasses) = false := by
      unfold isz
      rw [show ((lexF l.fClasses).fCode == 0) = false by simpa using hf]; rfl
    rw [hz, Bool.not_false, cnd_true]
    exact .inl ⟨_, rfl, hz⟩
/-! ### whether lists are the same -/
theorem scan_same {α : Type} [DecidableEq α] (a b : List α) (hl : a.length = b.length) : ∀ (n i : Nat), i + n = a.length → scan (R := Bool) (fun (i : Int) (_ : Unit) (x : α) => (idx b i).map fun y => if x = y then .inr () else .inl false) (i : Int) () (a.drop i) = if a.drop i = b.drop i then some (.inr ()) else some (.inl false)
  | 0, i, h => by
    rw [List.drop_eq_nil_of_le (by omega), List.drop_eq_nil_of_le (by omega)]; rfl
  | n + 1, i, h => by
    have h1 : i < a.length := by omega
    have h2 : i < b.length := by omega
    rw [List.drop_eq_getElem_cons h1, List.drop_eq_getElem_cons h2]
    have ih := scan_same a b hl n (i + 1) (by omega)
    rw [show ((i + 1 : Nat) : Int) = (i : Int) + 1 by omega] at ih
    simp only [scan, idx_get, List.getElem?_eq_getElem h2, Option.map_some]
    by_cases he : a[i] = b[i]
    · simp only [he, if_true, List.cons.injEq, true_and]
      exact ih
    · simp only [he, if_false, List.cons.injEq, false_and]
theorem f20_eq (m : Nat) (a b : List ByteArray) (hm : a.length < m) (hl : a.length ≤ 1000000) : f20 m a b = some (decide (a = b)) := by
  unfold f20
  by_cases h : a.length = b.length
  · have hb : ((a.length : Int) != (b.length : Int)) = false := by simp [h]
    rw [hb, cnd_false]
    have e : iter (fun (y : Int) => f20_B1 m a b y) m 0 = landed (fun (_ : Unit) (i : Int) => i) a.length (scan (R := Bool) (fun (i : Int) (_ : Unit) (x : ByteArray) => (idx b i).map fun y => if x = y then .inr () else .inl false) 0 () a) := by
      refine iter_scan a (fun (y : Int) => f20_B1 m a b y) (fun (_ : Unit) (i : Int) => i) _ (fun u k hi => ?_) m 0 () (by omega) (by omega)
      unfold f20_B1
      refine body_turn rfl fun x hx => ?_
      have hk := lt_of_getElem? hx
      have hw : w64 ((k : Int) + 1) = (k : Int) + 1 := w64_id ⟨by omega, by omega⟩
      rw [idx_get, List.getElem?_eq_getElem (by omega : k < b.length), bnd_some', Option.map_some, tl_eq, hw]
      by_cases he : x = b[k]'(by omega)
      · simp [he]
      · simp [he]
    rw [e]
    have := scan_same a b h a.length 0 (by omega)
    rw [show ((0 : Nat) : Int) = 0 from rfl, List.drop_zero, List.drop_zero] at this
    rw [this]
    by_cases he : a = b
    · rw [if_pos he, decide_eq_true he]; rfl
    · rw [if_neg he, decide_eq_false he]; rfl
  · have hb : ((a.length : Int) != (b.length : Int)) = true := by simp; omega
    rw [hb, cnd_true, decide_eq_false]
    intro h'; subst h'; exact h rfl
/-- entries are the same -/
theorem S61.ext_iff' (a b : S61) : a = b ↔ a.fBase = b.fBase ∧ a.fForm = b.fForm ∧ a.fWeight = b.fWeight ∧ a.fTags = b.fTags := by
  constructor
  · rintro rfl; exact ⟨rfl, rfl, rfl, rfl⟩
  · obtain ⟨_, _, _, _⟩ := a
    obtain ⟨_, _, _, _⟩ := b
    rintro ⟨h1, h2, h3, h4⟩
    simp only at h1 h2 h3 h4
    rw [h1, h2, h3, h4]
instance : DecidableEq S61 := fun a b => decidable_of_iff _ (S61.ext_iff' a b).symm
theorem f30_eq (m : Nat) (a b : List S61) (hm : 1000 < m) (ha : a.length < m) (hn : a.length ≤ 1000000) (hl : ∀ x ∈ a, x.fTags.length ≤ 900) : f30 m a b = some (decide (a = b)) := by
  unfold f30
  by_cases h : a.length = b.length
  · have hb : ((a.length : Int) != (b.length : Int)) = false := by simp [h]
    rw [hb, cnd_false]
    have e : iter (fun (y : Int) => f30_B4 m a b y) m 0 = landed (fun (_ : Unit) (i : Int) => i) a.length (scan (R := Bool) (fun (i : Int) (_ : Unit) (x : S61) => (idx b i).map fun y => if x = y then .inr () else .inl false) 0 () a) := by
      refine iter_scan a (fun (y : Int) => f30_B4 m a b y) (fun (_ : Unit) (i : Int) => i) _ (fun u k hi => ?_) m 0 () (by omega) (by omega)
      unfold f30_B4
      refine body_turn rfl fun x hx => ?_
      have hk := lt_of_getElem? hx
      have hw : w64 ((k : Int) + 1) = (k : Int) + 1 := w64_id ⟨by omega, by omega⟩
      have hbk : b[k]? = some (b[k]'(by omega)) := List.getElem?_eq_getElem (by omega)
      generalize b[k]'(by omega) = y at hbk
      have hxt := hl x (List.mem_of_getElem? hx)
      simp only [idx_get, hbk, hx, bnd_some', tl_eq, f30_r3, f30_r2, f30_r1, f20_eq m x.fTags y.fTags (by omega) (by omega), Option.map_some, hw]
      have hd : (x = y) = (x.fBase = y.fBase ∧ x.fForm = y.fForm ∧ x.fWeight = y.fWeight ∧ x.fTags = y.fTags) := propext (S61.ext_iff' x y)
      by_cases c1 : x.fBase = y.fBase
      · by_cases c2 : x.fForm = y.fForm
        · by_cases c3 : x.fWeight = y.fWeight
          · by_cases c4 : x.fTags = y.fTags
            · rw [if_pos (by rw [hd]; exact ⟨c1, c2, c3, c4⟩)]
              simp [c1, c2, c3, c4]
            · rw [if_neg (by rw [hd]; exact fun h => c4 h.2.2.2)]
              simp [c1, c2, c3, c4]
          · rw [if_neg (by rw [hd]; exact fun h => c3 h.2.2.1)]
            have c3' : (x.fWeight != y.fWeight) = true := by simpa using c3
            simp [c1, c2, c3']
        · rw [if_neg (by rw [hd]; exact fun h => c2 h.2.1)]
          simp [c1, c2]
      · rw [if_neg (by rw [hd]; exact fun h => c1 h.1)]
        simp [c1]
    rw [e]
    have := scan_same a b h a.length 0 (by omega)
    rw [show ((0 : Nat) : Int) = 0 from rfl, List.drop_zero, List.drop_zero] at this
    rw [this]
    by_cases he : a = b
    · rw [if_pos he, decide_eq_true he]; rfl
    · rw [if_neg he, decide_eq_false he]; rfl
  · have hb : ((a.length : Int) != (b.length : Int)) = true := by simp; omega
    rw [hb, cnd_true, decide_eq_false]
    intro h'; subst h'; exact h rfl
theorem f30_one (m : Nat) (a b : S61) (hm : 1000 < m) (hl : a.fTags.length ≤ 900) : f30 m [a] [b] = some (decide (a = b)) := by
  rw [f30_eq m [a] [b] hm (by simp only [List.length_cons, List.length_nil]; omega) (by simp) (fun x hx => by rw [List.mem_singleton.1 hx]; exact hl)]
  by_cases h : a = b
  · rw [decide_eq_true h, decide_eq_true (by rw [h])]
  · rw [decide_eq_false h, decide_eq_false (by simpa using h)]
/-! ### the closed example -/
abbrev dogE1 : S61 := ⟨⟨#[100, 111, 103]⟩, ⟨#[100, 111, 103]⟩, [⟨#[110]⟩, ⟨#[115, 103]⟩], 0⟩
abbrev dogE2 : S61 := ⟨⟨#[100, 111, 103]⟩, ⟨#[100, 111, 103, 115]⟩, [⟨#[110]⟩, ⟨#[112, 108]⟩], 2⟩
noncomputable def dogs : S51 := (f51 0).getD ⟨[]⟩
theorem f51_dogs (m : Nat) : f51 m = some dogs := rfl
theorem dogs_sorted : srtC cmpE [dogE1, dogE2] = [dogE1, dogE2] := by
  refine (srtC_is toE _ _ (List.Perm.refl _) ?_).symm
  refine List.pairwise_cons.2 ⟨fun y hy => ?_, List.pairwise_cons.2 ⟨fun y hy => (nomatch hy), List.Pairwise.nil⟩⟩
  rw [List.mem_singleton.1 hy]
  kernel_rfl
theorem dogs_entries : entriesL dogs 2 = some ([dogE1, dogE2], ⟨0, 0⟩) := by
  have h1 : lexF dogs.fClasses = ⟨0, 0⟩ := by kernel_rfl
  have h2 : followL MM dogs 2 0 zE ([], 0) = some (true, [dogE1, dogE2], 3) := by kernel_rfl
  have h3 : (dogs.fClasses.all fun c => decide (c.fItems.length ≤ 1000000)) = true := by kernel_rfl
  have h4 : compactL [dogE1, dogE2] = [dogE1, dogE2] := by kernel_rfl
  have h5 : smallL [dogE1, dogE2] = true := by kernel_rfl
  unfold entriesL
  rw [f52_eq MM dogs (by decide), bnd_some', h1, show isz ⟨0, 0⟩ = true from rfl, h3, Bool.not_true, cnd_false, show (decide ((2 : Int) < 1) || decide ((2 : Int) > 30)) = false from rfl, cnd_false, cnd_true, show Int.toNat 2 = 2 from rfl, h2, bnd_some']
  show finE [dogE1, dogE2] = _
  unfold finE
  rw [dogs_sorted, h4, h5]
  rfl
theorem f26_true (m : Nat) (hm : 1000 < m) : f26 m = some true := by
  obtain ⟨k, rfl⟩ : ∃ k, m = k + 1000 := ⟨m - 1000, by omega⟩
  unfold f26
  rw [f51_dogs, bnd_some']
  show bnd (entriesL dogs 2) _ = _
  rw [dogs_entries, bnd_some']
  show bnd (cnd true (bnd (f30 (k + 1000) [dogE1, dogE2] [dogE1, dogE2]) fun v15 => some v15) (some false)) _ = _
  rw [cnd_true, f30_eq (k + 1000) [dogE1, dogE2] [dogE1, dogE2] hm (by simp only [List.length_cons, List.length_nil]; omega) (by simp) (fun x hx => by
    rcases List.mem_cons.1 hx with rfl | hx
    · decide
    · rw [List.mem_singleton.1 hx]; decide), decide_eq_true rfl]
  rfl
end Go.Abs
