import Derived.Test.YtmoiipfomcgomaaGreatDoorCP6
namespace Go.Abs.En
open Go.Sort Go.Proofs
set_option linter.unusedVariables false
theorem f48_two (m : Nat) (a b : List ByteArray) (hm : 3 ≤ m) (h : a.length + b.length ≤ 1000) : f48 m [a, b] = some (a ++ b) := by
 have e1 : iter (fun (y : Int × Int) => f48_B1 m [a, b] y.1 y.2) m (0, 0) = landed (fun (s : Int) (i : Int) => (s, i)) [a, b].length (scan (fun _ (s : Int) (v : List ByteArray) => if w64 (s + (v.length : Int)) < 0 then none else some (.inr (w64 (s + (v.length : Int))))) 0 0 [a, b]) := by
  refine iter_scan [a, b] (fun (y : Int × Int) => f48_B1 m [a, b] y.1 y.2) (fun (s : Int) (i : Int) => (s, i)) _ (fun s i hi => ?_) m 0 0 (by omega) (by simp; omega)
  unfold f48_B1
  refine body_turn rfl fun t ht => ?_
  have hi : i < 2 := by have := lt_of_getElem? ht; simpa using this
  have hw : w64 ((i : Int) + 1) = (i : Int) + 1 := w64_id ⟨by omega, by omega⟩
  rw [hw]
  by_cases hc : w64 (s + (t.length : Int)) < 0
  ·rw [decide_eq_true hc, cnd_true, if_pos hc]
  ·rw [decide_eq_false hc, cnd_false, if_neg hc]
 have e2 : iter (fun (y : (List ByteArray) × Int) => f48_B2 m [a, b] y.1 y.2) m ([], 0) = landed (fun (s : List ByteArray) (i : Int) => (s, i)) [a, b].length (scan (fun _ (s : List ByteArray) (v : List ByteArray) => (app 16 s v).map .inr) 0 [] [a, b]) := by
  refine iter_scan [a, b] (fun (y : (List ByteArray) × Int) => f48_B2 m [a, b] y.1 y.2) (fun (s : List ByteArray) (i : Int) => (s, i)) _ (fun s i hi => ?_) m 0 [] (by omega) (by simp; omega)
  unfold f48_B2
  refine body_turn rfl fun t ht => ?_
  have hi : i < 2 := by have := lt_of_getElem? ht; simpa using this
  have hw : w64 ((i : Int) + 1) = (i : Int) + 1 := w64_id ⟨by omega, by omega⟩
  rw [hw]
  cases app 16 s t <;> rfl
 unfold f48
 rw [e1, e2]
 have w1 : w64 (0 + (a.length : Int)) = (a.length : Int) := by rw [Int.zero_add]; exact w64_id ⟨by omega, by omega⟩
 have w2 : w64 ((a.length : Int) + (b.length : Int)) = ((a.length + b.length : Nat) : Int) := by rw [w64_id ⟨by omega, by omega⟩]; omega
 have c1 : ¬ ((a.length : Int) < 0) := by omega
 have c2 : ¬ (((a.length + b.length : Nat) : Int) < 0) := by omega
 have a1 : app 16 [] a = some a := by rw [app_some 16 [] a (by simp only [List.length_nil]; omega) (by simp only [List.length_nil]; omega), List.nil_append]
 have a2 : app 16 a b = some (a ++ b) := app_some 16 a b (by omega) (by omega)
 simp only [scan, w1, w2, if_neg c1, if_neg c2, landed, brk_inr, a1, a2, Option.map_some]
 have g : grw 16 (((a.length + b.length : Nat) : Int)) = some () := by
  unfold grw
  rw [if_pos]
  omega
 rw [g, bnd_some']
def stepE (e : S40) (x : S57) : S40 := ⟨e.fBase ++ x.fBase, e.fForm ++ x.fForm, e.fTags ++ x.fTags, w64 (e.fWeight + x.fWeight)⟩
structure Bd (j : Nat) (e : S40) : Prop where
 base : e.fBase.size ≤ 4000 * j
 form : e.fForm.size ≤ 4000 * j
 tags : e.fTags.length ≤ 4 * j
theorem partS_size {s : ByteArray} (h : partS s = true) : s.size ≤ 4000 := by
 unfold partS at h
 rw [Bool.or_eq_true] at h
 rcases h with h | h
 ·have := of_decide_eq_true h
  subst this; decide
 ·unfold wordS at h
  rw [Bool.and_eq_true] at h
  exact of_decide_eq_true h.1
structure OkI (n : Nat) (x : S57) : Prop where
 base : x.fBase.size ≤ 4000
 form : x.fForm.size ≤ 4000
 tags : x.fTags.length ≤ 4
 next : -1 ≤ x.fNext ∧ x.fNext < n
theorem itemBad_ok {n : Nat} {x : S57} (h : itemBad n x = 0) : OkI n x := by
 unfold itemBad at h
 split at h
 ·omega
 ·rename_i h1
  split at h
  ·omega
  ·rename_i h2
   split at h
   ·omega
   ·split at h
    ·omega
    ·rename_i h3
     simp only [Bool.not_eq_true', Bool.not_eq_false, Bool.and_eq_true] at h1
     exact ⟨partS_size h1.1, partS_size h1.2, by omega, by omega⟩
theorem nextE_eq {m n j : Nat} {e : S40} {x : S57} (hm : 3 ≤ m) (hx : OkI n x) (he : Bd j e) (hj : j ≤ 30) : nextE m e x = some (stepE e x) ∧ Bd (j + 1) (stepE e x) := by
 obtain ⟨x1, x2, x3, _⟩ := hx
 obtain ⟨e1, e2, e3⟩ := he
 refine ⟨?_, ⟨?_, ?_, ?_⟩⟩
 ·unfold nextE scat
  rw [if_pos (by unfold maxLen; omega), if_pos (by unfold maxLen; omega), f48_two m _ _ hm (by omega)]
  rfl
 ·show (e.fBase ++ x.fBase).size ≤ _
  rw [ByteArray.size_append]; omega
 ·show (e.fForm ++ x.fForm).size ≤ _
  rw [ByteArray.size_append]; omega
 ·show (e.fTags ++ x.fTags).length ≤ _
  rw [List.length_append]; omega
def Rch (l : List S55) : Nat → Int → S40 → S40 → Prop
 | 0, _, _, _ => False
 | k + 1, cls, e, z => ∃ c, idx l cls = some c ∧ ∃ x ∈ c.fItems, (x.fNext < 0 ∧ z = stepE e x) ∨ (0 ≤ x.fNext ∧ Rch l k x.fNext (stepE e x) z)
theorem Rch.mono {l : List S55} : ∀ {k k' : Nat} (h : k ≤ k') {cls : Int} {e z : S40}, Rch l k cls e z → Rch l k' cls e z
 | 0, _, _, _, _, _, hr => hr.elim
 | k + 1, 0, h, _, _, _, _ => by omega
 | k + 1, k' + 1, h, cls, e, z, hr => by
  obtain ⟨c, hc, x, hx, hz⟩ := hr
  refine ⟨c, hc, x, hx, ?_⟩
  rcases hz with hz | ⟨h1, h2⟩
  ·exact .inl hz
  ·exact .inr ⟨h1, Rch.mono (by omega) h2⟩
structure GF (s : Fst) : Prop where
 lo : 0 ≤ s.2
 hi : s.2 ≤ 20001
 len : (s.1.length : Int) ≤ s.2
 tags : ∀ y ∈ s.1, y.fTags.length ≤ 124
def Rec (l : List S55) (k : Nat) (rec : Int → S40 → Fst → Option (Bool × Fst)) (P : S40 → Prop) : Prop :=
 ∀ (cls : Int) (e : S40) (s : Fst), 0 ≤ cls → cls < (l.length : Int) → P e → GF s → s.2 ≤ 20000 → ∃ o, rec cls e s = some o ∧ GF o.2 ∧ (o.1 = true → o.2.2 ≤ 20000 ∧ ∀ z, z ∈ o.2.1 ↔ z ∈ s.1 ∨ Rch l k cls e z)
theorem exM {α : Type} {p : α → Prop} {a : α} {l : List α} : (∃ x, x ∈ a :: l ∧ p x) ↔ p a ∨ ∃ x, x ∈ l ∧ p x := by
 constructor
 ·rintro ⟨x, h, hp⟩
  rcases List.mem_cons.1 h with rfl | h
  ·exact .inl hp
  ·exact .inr ⟨x, h, hp⟩
 ·rintro (h | ⟨x, h, hp⟩)
  ·exact ⟨a, List.mem_cons_self, h⟩
  ·exact ⟨x, List.mem_cons_of_mem _ h, hp⟩
theorem itemsL_ok {m j k : Nat} (hm : 3 ≤ m) (l : List S55) (rec : Int → S40 → Fst → Option (Bool × Fst)) (hr : Rec l k rec (Bd (j + 1))) (e : S40) (he : Bd j e) (hj : j ≤ 30) :
  ∀ (xs : List S57) (s : Fst), (∀ x ∈ xs, OkI l.length x) → GF s → s.2 ≤ 20000 → ∃ o, itemsL m rec e xs s = some o ∧ GF o.2 ∧ (o.1 = true → o.2.2 ≤ 20000 ∧ ∀ z, z ∈ o.2.1 ↔ z ∈ s.1 ∨ ∃ x ∈ xs, (x.fNext < 0 ∧ z = stepE e x) ∨ (0 ≤ x.fNext ∧ Rch l k x.fNext (stepE e x) z))
 | [], s, _, hg, hs => ⟨(true, s), rfl, hg, fun _ => ⟨hs, fun z => by simp⟩⟩
 | x :: r, s, hx, hg, hs => by
  have hx0 := hx x List.mem_cons_self
  obtain ⟨g1, g2, g3, g4⟩ := hg
  have hw : w64 (s.2 + 1) = s.2 + 1 := w64_id ⟨by omega, by omega⟩
  simp only [itemsL, hw]
  by_cases hc : s.2 + 1 > 20000
  ·rw [decide_eq_true hc, cnd_true]
   exact ⟨_, rfl, ⟨by show (0 : Int) ≤ s.2 + 1; omega, by show s.2 + 1 ≤ (20001 : Int); omega, by show (s.1.length : Int) ≤ s.2 + 1; omega, g4⟩, fun h => nomatch h⟩
  ·rw [decide_eq_false hc, cnd_false]
   obtain ⟨n1, n2⟩ := nextE_eq hm hx0 he hj
   rw [n1, bnd_some']
   by_cases hn : x.fNext < 0
   ·rw [decide_eq_true hn, cnd_true, app_some 64 s.1 [stepE e x] (by simp only [List.length_cons, List.length_nil]; omega) (by simp only [List.length_cons, List.length_nil]; omega), bnd_some']
    have hg' : GF (s.1 ++ [stepE e x], s.2 + 1) := ⟨by show (0 : Int) ≤ s.2 + 1; omega, by show s.2 + 1 ≤ (20001 : Int); omega, by show ((s.1 ++ [stepE e x]).length : Int) ≤ s.2 + 1; rw [List.length_append]; simp only [List.length_cons, List.length_nil]; omega, fun y hy => by
     rcases List.mem_append.1 hy with hy | hy
     ·exact g4 y hy
     ·simp at hy; subst hy; have := n2.tags; omega⟩
    obtain ⟨o, o1, o2, o3⟩ := itemsL_ok hm l rec hr e he hj r _ (fun y hy => hx y (List.mem_cons_of_mem _ hy)) hg' (by show s.2 + 1 ≤ (20000 : Int); omega)
    refine ⟨o, o1, o2, fun ht => ⟨(o3 ht).1, fun z => ?_⟩⟩
    rw [(o3 ht).2 z, exM]
    have : ¬ (0 ≤ x.fNext ∧ Rch l k x.fNext (stepE e x) z) := fun h => by omega
    simp only [List.mem_append, List.mem_singleton, hn, true_and, this, or_false, or_assoc]
   ·rw [decide_eq_false hn, cnd_false]
    obtain ⟨p, p1, p2, p3⟩ := hr x.fNext (stepE e x) (s.1, s.2 + 1) (by omega) hx0.next.2 n2 ⟨by show (0 : Int) ≤ s.2 + 1; omega, by show s.2 + 1 ≤ (20001 : Int); omega, by show (s.1.length : Int) ≤ s.2 + 1; omega, g4⟩ (by show s.2 + 1 ≤ (20000 : Int); omega)
    rw [p1, bnd_some']
    cases hp : p.1 with
    | false =>
     rw [Bool.not_false, cnd_true]
     exact ⟨_, rfl, p2, fun h => nomatch h⟩
    | true =>
     rw [Bool.not_true, cnd_false]
     obtain ⟨q1, q2⟩ := p3 hp
     obtain ⟨o, o1, o2, o3⟩ := itemsL_ok hm l rec hr e he hj r p.2 (fun y hy => hx y (List.mem_cons_of_mem _ hy)) p2 q1
     refine ⟨o, o1, o2, fun ht => ⟨(o3 ht).1, fun z => ?_⟩⟩
     rw [(o3 ht).2 z, exM, q2 z]
     have h0 : 0 ≤ x.fNext := by omega
     simp only [hn, false_and, false_or, h0, true_and, or_assoc]
theorem followL_ok {m : Nat} (hm : 3 ≤ m) (l : List S55) (hi : ∀ c ∈ l, ∀ x ∈ c.fItems, OkI l.length x) : ∀ (k : Nat), k ≤ 30 → Rec l k (followL m ⟨l⟩ k) (Bd (30 - k))
 | 0, _ => fun cls e s h1 h2 he hg hs => ⟨(true, s), rfl, hg, fun _ => ⟨hs, fun z => by simp [Rch]⟩⟩
 | k + 1, hk => fun cls e s h1 h2 he hg hs => by
  have ih := followL_ok hm l hi k (by omega)
  rw [show 30 - k = (30 - (k + 1)) + 1 by omega] at ih
  obtain ⟨c, hc⟩ : ∃ c, idx l cls = some c := by
   unfold idx
   rw [if_pos h1]
   exact ⟨_, List.getElem?_eq_getElem (by omega)⟩
  have hcm : c ∈ l := by
   unfold idx at hc
   rw [if_pos h1] at hc
   exact List.mem_of_getElem? hc
  obtain ⟨o, o1, o2, o3⟩ := itemsL_ok hm l (followL m ⟨l⟩ k) ih e he (by omega) c.fItems s (hi c hcm) hg hs
  refine ⟨o, ?_, o2, fun ht => ⟨(o3 ht).1, fun z => ?_⟩⟩
  ·show bnd (idx l cls) _ = _
   rw [hc, bnd_some']; exact o1
  ·rw [(o3 ht).2 z]
   constructor
   ·rintro (h | ⟨x, hx, h⟩)
    ·exact .inl h
    ·exact .inr ⟨c, hc, x, hx, h⟩
   ·rintro (h | ⟨c', hc', x, hx, h⟩)
    ·exact .inl h
    ·rw [hc] at hc'; cases hc'
     exact .inr ⟨x, hx, h⟩
theorem goC_strict : ∀ (r : List S40) (p : S40), (p :: r).Pairwise (fun a b => ltOf cmpE b a = false) → (p :: goC p r).Pairwise (fun a b => cmpE a b < 0) ∧ ∀ z, z ∈ p :: goC p r ↔ z ∈ p :: r
 | [], p, _ => ⟨by simp [goC], fun z => by simp [goC]⟩
 | y :: r, p, h => by
  by_cases hc : cmpE y p = 0
  ·obtain rfl := (toE.eq y p).1 hc
   rw [goC_eq hc]
   obtain ⟨h1, h2⟩ := goC_strict r y (List.pairwise_cons.1 h).2
   refine ⟨h1, fun z => ?_⟩
   rw [h2 z]
   simp
  ·rw [goC_ne hc]
   obtain ⟨h1, h2⟩ := goC_strict r y (List.pairwise_cons.1 h).2
   have hp := (List.pairwise_cons.1 h).1
   have hlt : cmpE p y < 0 := by
    have := TO.lt_false (c := cmpE) y p |>.1 (hp y List.mem_cons_self)
    exact (toE.sw p y).2 (by omega)
   refine ⟨List.pairwise_cons.2 ⟨fun z hz => ?_, h1⟩, fun z => ?_⟩
   ·rcases List.mem_cons.1 hz with rfl | hz'
    ·exact hlt
    ·exact toE.tr p y z hlt ((List.pairwise_cons.1 h1).1 z hz')
   ·rw [List.mem_cons, h2 z, List.mem_cons (a := z) (b := p)]
theorem compactL_strict {l : List S40} (h : l.Pairwise (fun a b => ltOf cmpE b a = false)) : (compactL l).Pairwise (fun a b => cmpE a b < 0) ∧ ∀ z, z ∈ compactL l ↔ z ∈ l := by
 cases l with
 | nil => exact ⟨List.Pairwise.nil, fun z => Iff.rfl⟩
 | cons p r => exact goC_strict r p h
structure Ent (l : List S55) (k : Nat) (o : List S40) : Prop where
 ord : o.Pairwise fun a b => cmpE a b < 0
 len : o.length ≤ 300
 tags : ∀ y ∈ o, y.fTags.length ≤ 124
 mem : ∀ z, z ∈ o ↔ Rch l k 0 zE z
theorem finE_ok {l : List S55} {k : Nat} {s : Fst} (h : GF s) (hm : ∀ z, z ∈ s.1 ↔ Rch l k 0 zE z) : finE s.1 = some ([], ⟨17, -1⟩) ∨ ∃ o, finE s.1 = some (o, ⟨0, 0⟩) ∧ Ent l k o := by
 obtain ⟨h1, h2, h3, h4⟩ := h
 have hs : smallL s.1 = true := by
  unfold smallL
  rw [Bool.and_eq_true, List.all_eq_true]
  exact ⟨decide_eq_true (by omega), fun y hy => decide_eq_true (by have := h4 y hy; omega)⟩
 unfold finE
 rw [hs, cnd_true]
 obtain ⟨g1, g2⟩ := compactL_strict (srtC_sorted toE s.1)
 by_cases hc : ((compactL (srtC cmpE s.1)).length : Int) > 300
 ·rw [decide_eq_true hc, cnd_true]; exact .inl rfl
 ·rw [decide_eq_false hc, cnd_false]
  have hmem : ∀ z, z ∈ compactL (srtC cmpE s.1) ↔ z ∈ s.1 := fun z => by rw [g2 z]; exact (srtC_perm s.1).mem_iff
  exact .inr ⟨_, rfl, g1, by omega, fun y hy => h4 y ((hmem y).1 hy), fun z => by rw [hmem z, hm z]⟩
theorem entriesL_ok (l : S23) (most : Int) : (∃ f : S31, entriesL l most = some ([], f) ∧ isz f = false) ∨ ∃ o, entriesL l most = some (o, ⟨0, 0⟩) ∧ 1 ≤ most ∧ Ent l.fClasses most.toNat o := by
 unfold entriesL
 rw [f14_eq MM l (by decide), bnd_some']
 by_cases hf : (lexF l.fClasses).fCode = 0
 ·obtain ⟨⟨h1, h2, h3⟩, he⟩ := lexF_ok hf
  rw [he]
  have hz : isz ⟨0, 0⟩ = true := rfl
  rw [hz, Bool.not_true, cnd_false]
  by_cases hr : most < 1 ∨ most > 30
  ·have : (decide (most < 1) || decide (most > 30)) = true := by simpa using hr
   rw [this, cnd_true]
   exact .inl ⟨_, rfl, rfl⟩
  ·have : (decide (most < 1) || decide (most > 30)) = false := by
    rw [← Bool.not_eq_true]; simpa using hr
   rw [this, cnd_false]
   have hil : (l.fClasses.all fun c => decide (c.fItems.length ≤ 1000000)) = true := List.all_eq_true.2 fun c hc => decide_eq_true (by have := h2 c hc; omega)
   rw [hil, cnd_true]
   have hb : Bd (30 - most.toNat) zE := ⟨by show (0 : Nat) ≤ _; omega, by show (0 : Nat) ≤ _; omega, by show (0 : Nat) ≤ _; omega⟩
   obtain ⟨p, p1, p2, p3⟩ := followL_ok (m := MM) (by decide) l.fClasses (fun c hc x hx => itemBad_ok (h3 c hc x hx)) most.toNat (by omega) 0 zE ([], 0) (by omega) (by omega) hb ⟨Int.le_refl _, by decide, by decide, fun y hy => nomatch hy⟩ (by decide)
   rw [p1, bnd_some']
   cases hp : p.1 with
   | false => exact .inl ⟨_, rfl, rfl⟩
   | true =>
    rw [Bool.not_true, cnd_false]
    rcases finE_ok (l := l.fClasses) (k := most.toNat) p2 (fun z => by rw [(p3 hp).2 z]; simp) with h | ⟨o, h, ho⟩
    ·exact .inl ⟨_, h, rfl⟩
    ·exact .inr ⟨o, h, by omega, ho⟩
 ·have hz : isz (lexF l.fClasses) = false := by
   unfold isz
   rw [show ((lexF l.fClasses).fCode == 0) = false by simpa using hf]; rfl
  rw [hz, Bool.not_false, cnd_true]
  exact .inl ⟨_, rfl, hz⟩
theorem scan_same {α : Type} [DecidableEq α] (a b : List α) (hl : a.length = b.length) : ∀ (n i : Nat), i + n = a.length → scan (R := Bool) (fun (i : Int) (_ : Unit) (x : α) => (idx b i).map fun y => if x = y then .inr () else .inl false) (i : Int) () (a.drop i) = if a.drop i = b.drop i then some (.inr ()) else some (.inl false)
 | 0, i, h => by
  rw [List.drop_eq_nil_of_le (by omega), List.drop_eq_nil_of_le (by omega)]; rfl
 | n + 1, i, h => by
  have h1 : i < a.length := by omega
  have h2 : i < b.length := by omega
  rw [List.drop_eq_getElem_cons h1, List.drop_eq_getElem_cons h2]
  have ih := scan_same a b hl n (i + 1) (by omega)
  rw [show ((i + 1 : Nat) : Int) = (i : Int) + 1 by omega] at ih
  simp only [scan, idx_get, List.getElem?_eq_getElem h2, Option.map_some]
  by_cases he : a[i] = b[i]
  ·simp only [he, if_true, List.cons.injEq, true_and]
   exact ih
  ·simp only [he, if_false, List.cons.injEq, false_and]
theorem f33_eq (m : Nat) (a b : List ByteArray) (hm : a.length < m) (hl : a.length ≤ 1000000) : f33 m a b = some (decide (a = b)) := by
 unfold f33
 by_cases h : a.length = b.length
 ·have hb : ((a.length : Int) != (b.length : Int)) = false := by simp [h]
  rw [hb, cnd_false]
  have e : iter (fun (y : Int) => f33_B1 m a b y) m 0 = landed (fun (_ : Unit) (i : Int) => i) a.length (scan (R := Bool) (fun (i : Int) (_ : Unit) (x : ByteArray) => (idx b i).map fun y => if x = y then .inr () else .inl false) 0 () a) := by
   refine iter_scan a (fun (y : Int) => f33_B1 m a b y) (fun (_ : Unit) (i : Int) => i) _ (fun u k hi => ?_) m 0 () (by omega) (by omega)
   unfold f33_B1
   refine body_turn rfl fun x hx => ?_
   have hk := lt_of_getElem? hx
   have hw : w64 ((k : Int) + 1) = (k : Int) + 1 := w64_id ⟨by omega, by omega⟩
   rw [idx_get, List.getElem?_eq_getElem (by omega : k < b.length), bnd_some', Option.map_some, tl_eq, hw]
   by_cases he : x = b[k]'(by omega)
   ·simp [he]
   ·simp [he]
  rw [e]
  have := scan_same a b h a.length 0 (by omega)
  rw [show ((0 : Nat) : Int) = 0 from rfl, List.drop_zero, List.drop_zero] at this
  rw [this]
  by_cases he : a = b
  ·rw [if_pos he, decide_eq_true he]; rfl
  ·rw [if_neg he, decide_eq_false he]; rfl
 ·have hb : ((a.length : Int) != (b.length : Int)) = true := by simp; omega
  rw [hb, cnd_true, decide_eq_false]
  intro h'; subst h'; exact h rfl
theorem S40.ext_iff' (a b : S40) : a = b ↔ a.fBase = b.fBase ∧ a.fForm = b.fForm ∧ a.fWeight = b.fWeight ∧ a.fTags = b.fTags := by
 constructor
 ·rintro rfl; exact ⟨rfl, rfl, rfl, rfl⟩
 ·obtain ⟨_, _, _, _⟩ := a
  obtain ⟨_, _, _, _⟩ := b
  rintro ⟨h1, h2, h3, h4⟩
  simp only at h1 h2 h3 h4
  rw [h1, h2, h3, h4]
instance : DecidableEq S40 := fun a b => decidable_of_iff _ (S40.ext_iff' a b).symm
theorem f13_eq (m : Nat) (a b : List S40) (hm : 1000 < m) (ha : a.length < m) (hn : a.length ≤ 1000000) (hl : ∀ x ∈ a, x.fTags.length ≤ 900) : f13 m a b = some (decide (a = b)) := by
 unfold f13
 by_cases h : a.length = b.length
 ·have hb : ((a.length : Int) != (b.length : Int)) = false := by simp [h]
  rw [hb, cnd_false]
  have e : iter (fun (y : Int) => f13_B4 m a b y) m 0 = landed (fun (_ : Unit) (i : Int) => i) a.length (scan (R := Bool) (fun (i : Int) (_ : Unit) (x : S40) => (idx b i).map fun y => if x = y then .inr () else .inl false) 0 () a) := by
   refine iter_scan a (fun (y : Int) => f13_B4 m a b y) (fun (_ : Unit) (i : Int) => i) _ (fun u k hi => ?_) m 0 () (by omega) (by omega)
   unfold f13_B4
   refine body_turn rfl fun x hx => ?_
   have hk := lt_of_getElem? hx
   have hw : w64 ((k : Int) + 1) = (k : Int) + 1 := w64_id ⟨by omega, by omega⟩
   have hbk : b[k]? = some (b[k]'(by omega)) := List.getElem?_eq_getElem (by omega)
   generalize b[k]'(by omega) = y at hbk
   have hxt := hl x (List.mem_of_getElem? hx)
   simp only [idx_get, hbk, hx, bnd_some', tl_eq, f13_r3, f13_r2, f13_r1, f33_eq m x.fTags y.fTags (by omega) (by omega), Option.map_some, hw]
   have hd : (x = y) = (x.fBase = y.fBase ∧ x.fForm = y.fForm ∧ x.fWeight = y.fWeight ∧ x.fTags = y.fTags) := propext (S40.ext_iff' x y)
   by_cases c1 : x.fBase = y.fBase
   ·by_cases c2 : x.fForm = y.fForm
    ·by_cases c3 : x.fWeight = y.fWeight
     ·by_cases c4 : x.fTags = y.fTags
      ·rw [if_pos (by rw [hd]; exact ⟨c1, c2, c3, c4⟩)]
       simp [c1, c2, c3, c4]
      ·rw [if_neg (by rw [hd]; exact fun h => c4 h.2.2.2)]
       simp [c1, c2, c3, c4]
     ·rw [if_neg (by rw [hd]; exact fun h => c3 h.2.2.1)]
      have c3' : (x.fWeight != y.fWeight) = true := by simpa using c3
      simp [c1, c2, c3']
    ·rw [if_neg (by rw [hd]; exact fun h => c2 h.2.1)]
     simp [c1, c2]
   ·rw [if_neg (by rw [hd]; exact fun h => c1 h.1)]
    simp [c1]
  rw [e]
  have := scan_same a b h a.length 0 (by omega)
  rw [show ((0 : Nat) : Int) = 0 from rfl, List.drop_zero, List.drop_zero] at this
  rw [this]
  by_cases he : a = b
  ·rw [if_pos he, decide_eq_true he]; rfl
  ·rw [if_neg he, decide_eq_false he]; rfl
 ·have hb : ((a.length : Int) != (b.length : Int)) = true := by simp; omega
  rw [hb, cnd_true, decide_eq_false]
  intro h'; subst h'; exact h rfl
abbrev dogE1 : S40 := ⟨⟨#[100, 111, 103]⟩, ⟨#[100, 111, 103]⟩, [⟨#[110]⟩, ⟨#[115, 103]⟩], 0⟩
abbrev dogE2 : S40 := ⟨⟨#[100, 111, 103]⟩, ⟨#[100, 111, 103, 115]⟩, [⟨#[110]⟩, ⟨#[112, 108]⟩], 2⟩
noncomputable def dogs : S23 := (f12 0).getD ⟨[]⟩
theorem f12_dogs (m : Nat) : f12 m = some dogs := rfl
theorem dogs_sorted : srtC cmpE [dogE1, dogE2] = [dogE1, dogE2] := by
 refine (srtC_is toE _ _ (List.Perm.refl _) ?_).symm
 refine List.pairwise_cons.2 ⟨fun y hy => ?_, List.pairwise_cons.2 ⟨fun y hy => (nomatch hy), List.Pairwise.nil⟩⟩
 rw [List.mem_singleton.1 hy]
 kernel_rfl
theorem dogs_entries : entriesL dogs 2 = some ([dogE1, dogE2], ⟨0, 0⟩) := by
 have h1 : lexF dogs.fClasses = ⟨0, 0⟩ := by kernel_rfl
 have h2 : followL MM dogs 2 0 zE ([], 0) = some (true, [dogE1, dogE2], 3) := by kernel_rfl
 have h3 : (dogs.fClasses.all fun c => decide (c.fItems.length ≤ 1000000)) = true := by kernel_rfl
 have h4 : compactL [dogE1, dogE2] = [dogE1, dogE2] := by kernel_rfl
 have h5 : smallL [dogE1, dogE2] = true := by kernel_rfl
 unfold entriesL
 rw [f14_eq MM dogs (by decide), bnd_some', h1, show isz ⟨0, 0⟩ = true from rfl, h3, Bool.not_true, cnd_false, show (decide ((2 : Int) < 1) || decide ((2 : Int) > 30)) = false from rfl, cnd_false, cnd_true, show Int.toNat 2 = 2 from rfl, h2, bnd_some']
 show finE [dogE1, dogE2] = _
 unfold finE
 rw [dogs_sorted, h4, h5]
 rfl
theorem f4_true (m : Nat) (hm : 1000 < m) : f4 m = some true := by
 obtain ⟨k, rfl⟩ : ∃ k, m = k + 1000 := ⟨m - 1000, by omega⟩
 unfold f4
 rw [f12_dogs, bnd_some']
 show bnd (entriesL dogs 2) _ = _
 rw [dogs_entries, bnd_some']
 show bnd (cnd true (bnd (f13 (k + 1000) [dogE1, dogE2] [dogE1, dogE2]) fun v15 => some v15) (some false)) _ = _
 rw [cnd_true, f13_eq (k + 1000) [dogE1, dogE2] [dogE1, dogE2] hm (by simp only [List.length_cons, List.length_nil]; omega) (by simp) (fun x hx => by
  rcases List.mem_cons.1 hx with rfl | hx
  ·decide
  ·rw [List.mem_singleton.1 hx]; decide), decide_eq_true rfl]
 rfl
end Go.Abs.En
