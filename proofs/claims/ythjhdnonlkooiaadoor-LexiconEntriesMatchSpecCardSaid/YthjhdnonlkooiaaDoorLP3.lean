/-
  LEXICON ENTRIES, the plain laws: what is found from class to class.
-/
import Derived.Test.YthjhdnonlkooiaaDoorLP1
namespace Go.Abs
open Go.Sort Go.Proofs
set_option linter.unusedVariables false

theorem f73_two (m : Nat) (a b : List ByteArray) (hm : 3 ≤ m) (h : a.length + b.length ≤ 1000) : f73 m [a, b] = some (a ++ b) := by
  have e1 : iter (fun (y : Int × Int) => f73_B1 m [a, b] y.1 y.2) m (0, 0) = landed (fun (s : Int) (i : Int) => (s, i)) [a, b].length (scan (fun _ (s : Int) (v : List ByteArray) => if w64 (s + (v.length : Int)) < 0 then none else some (.inr (w64 (s + (v.length : Int))))) 0 0 [a, b]) := by
    refine iter_scan [a, b] (fun (y : Int × Int) => f73_B1 m [a, b] y.1 y.2) (fun (s : Int) (i : Int) => (s, i)) _ (fun s i hi => ?_) m 0 0 (by omega) (by simp; omega)
    unfold f73_B1
    refine body_turn rfl fun t ht => ?_
    have hi : i < 2 := by have := lt_of_getElem? ht; simpa using this
    have hw : w64 ((i : Int) + 1) = (i : Int) + 1 := w64_id ⟨by omega, by omega⟩
    rw [hw]
    by_cases hc : w64 (s + (t.length : Int)) < 0
    · rw [decide_eq_true hc, cnd_true, if_pos hc]
    · rw [decide_eq_false hc, cnd_false, if_neg hc]
  have e2 : iter (fun (y : (List ByteArray) × Int) => f73_B2 m [a, b] y.1 y.2) m ([], 0) = landed (fun (s : List ByteArray) (i : Int) => (s, i)) [a, b].length (scan (fun _ (s : List ByteArray) (v : List ByteArray) => (app 16 s v).map .inr) 0 [] [a, b]) := by
    refine iter_scan [a, b] (fun (y : (List ByteArray) × Int) => f73_B2 m [a, b] y.1 y.2) (fun (s : List ByteArray) (i : Int) => (s, i)) _ (fun s i hi => ?_) m 0 [] (by omega) (by simp; omega)
    unfold f73_B2
    refine body_turn rfl fun t ht => ?_
    have hi : i < 2 := by have := lt_of_getElem? ht; simpa using this
    have hw : w64 ((i : Int) + 1) = (i : Int) + 1 := w64_id ⟨by omega, by omega⟩
    rw [hw]
    cases app 16 s t <;> rfl
  unfold f73
  rw [e1, e2]
  have w1 : w64 (0 + (a.length : Int)) = (a.length : Int) := by rw [Int.zero_add]; exact w64_id ⟨by omega, by omega⟩
  have w2 : w64 ((a.length : Int) + (b.length : Int)) = ((a.length + b.length : Nat) : Int) := by rw [w64_id ⟨by omega, by omega⟩]; omega
  have c1 : ¬ ((a.length : Int) < 0) := by omega
  have c2 : ¬ (((a.length + b.length : Nat) : Int) < 0) := by omega
  have a1 : app 16 [] a = some a := by rw [app_some 16 [] a (by simp only [List.length_nil]; omega) (by simp only [List.length_nil]; omega), List.nil_append]
  have a2 : app 16 a b = some (a ++ b) := app_some 16 a b (by omega) (by omega)
  simp only [scan, w1, w2, if_neg c1, if_neg c2, landed, brk_inr, a1, a2, Option.map_some]
  have g : grw 16 (((a.length + b.length : Nat) : Int)) = some () := by
    unfold grw
    rw [if_pos]
    omega
  rw [g, bnd_some']

/-! ### one item more -/
def stepE (e : S61) (x : S90) : S61 := ⟨e.fBase ++ x.fBase, e.fForm ++ x.fForm, e.fTags ++ x.fTags, w64 (e.fWeight + x.fWeight)⟩
structure Bd (j : Nat) (e : S61) : Prop where
  base : e.fBase.size ≤ 4000 * j
  form : e.fForm.size ≤ 4000 * j
  tags : e.fTags.length ≤ 4 * j
theorem partS_size {s : ByteArray} (h : partS s = true) : s.size ≤ 4000 := by
  unfold partS at h
  rw [Bool.or_eq_true] at h
  rcases h with h | h
  · have := of_decide_eq_true h
    subst this; decide
  · unfold wordS at h
    rw [Bool.and_eq_true] at h
    exact of_decide_eq_true h.1
structure OkI (n : Nat) (x : S90) : Prop where
  base : x.fBase.size ≤ 4000
  form : x.fForm.size ≤ 4000
  tags : x.fTags.length ≤ 4
  next : -1 ≤ x.fNext ∧ x.fNext < n
theorem itemBad_ok {n : Nat} {x : S90} (h : itemBad n x = 0) : OkI n x := by
  unfold itemBad at h
  split at h
  · omega
  · rename_i h1
    split at h
    · omega
    · rename_i h2
      split at h
      · omega
      · split at h
        · omega
        · rename_i h3
          simp only [Bool.not_eq_true', Bool.not_eq_false, Bool.and_eq_true] at h1
          exact ⟨partS_size h1.1, partS_size h1.2, by omega, by omega⟩
theorem nextE_eq {m n j : Nat} {e : S61} {x : S90} (hm : 3 ≤ m) (hx : OkI n x) (he : Bd j e) (hj : j ≤ 30) : nextE m e x = some (stepE e x) ∧ Bd (j + 1) (stepE e x) := by
  obtain ⟨x1, x2, x3, _⟩ := hx
  obtain ⟨e1, e2, e3⟩ := he
  refine ⟨?_, ⟨?_, ?_, ?_⟩⟩
  · unfold nextE scat
    rw [if_pos (by unfold maxLen; omega), if_pos (by unfold maxLen; omega), f73_two m _ _ hm (by omega)]
    rfl
  · show (e.fBase ++ x.fBase).size ≤ _
    rw [ByteArray.size_append]; omega
  · show (e.fForm ++ x.fForm).size ≤ _
    rw [ByteArray.size_append]; omega
  · show (e.fTags ++ x.fTags).length ≤ _
    rw [List.length_append]; omega
/-- what is found behind a class, with so many items more -/
def Rch (l : List S88) : Nat → Int → S61 → S61 → Prop
  | 0, _, _, _ => False
  | k + 1, cls, e, z => ∃ c, idx l cls = some c ∧ ∃ x ∈ c.fItems, (x.fNext < 0 ∧ z = stepE e x) ∨ (0 ≤ x.fNext ∧ Rch l k x.fNext (stepE e x) z)
theorem Rch.mono {l : List S88} : ∀ {k k' : Nat} (h : k ≤ k') {cls : Int} {e z : S61}, Rch l k cls e z → Rch l k' cls e z
  | 0, _, _, _, _, _, hr => hr.elim
  | k + 1, 0, h, _, _, _, _ => by omega
  | k + 1, k' + 1, h, cls, e, z, hr => by
    obtain ⟨c, hc, x, hx, hz⟩ := hr
    refine ⟨c, hc, x, hx, ?_⟩
    rcases hz with hz | ⟨h1, h2⟩
    · exact .inl hz
    · exact .inr ⟨h1, Rch.mono (by omega) h2⟩
structure GF (s : Fst) : Prop where
  lo : 0 ≤ s.2
  hi : s.2 ≤ 20001
  len : (s.1.length : Int) ≤ s.2
  tags : ∀ y ∈ s.1, y.fTags.length ≤ 124
def Rec (l : List S88) (k : Nat) (rec : Int → S61 → Fst → Option (Bool × Fst)) (P : S61 → Prop) : Prop :=
  ∀ (cls : Int) (e : S61) (s : Fst), 0 ≤ cls → cls < (l.length : Int) → P e → GF s → s.2 ≤ 20000 → ∃ o, rec cls e s = some o ∧ GF o.2 ∧ (o.1 = true → o.2.2 ≤ 20000 ∧ ∀ z, z ∈ o.2.1 ↔ z ∈ s.1 ∨ Rch l k cls e z)
theorem exM {α : Type} {p : α → Prop} {a : α} {l : List α} : (∃ x, x ∈ a :: l ∧ p x) ↔ p a ∨ ∃ x, x ∈ l ∧ p x := by
  constructor
  · rintro ⟨x, h, hp⟩
    rcases List.mem_cons.1 h with rfl | h
    · exact .inl hp
    · exact .inr ⟨x, h, hp⟩
  · rintro (h | ⟨x, h, hp⟩)
    · exact ⟨a, List.mem_cons_self, h⟩
    · exact ⟨x, List.mem_cons_of_mem _ h, hp⟩
theorem itemsL_ok {m j k : Nat} (hm : 3 ≤ m) (l : List S88) (rec : Int → S61 → Fst → Option (Bool × Fst)) (hr : Rec l k rec (Bd (j + 1))) (e : S61) (he : Bd j e) (hj : j ≤ 30) :
    ∀ (xs : List S90) (s : Fst), (∀ x ∈ xs, OkI l.length x) → GF s → s.2 ≤ 20000 → ∃ o, itemsL m rec e xs s = some o ∧ GF o.2 ∧ (o.1 = true → o.2.2 ≤ 20000 ∧ ∀ z, z ∈ o.2.1 ↔ z ∈ s.1 ∨ ∃ x ∈ xs, (x.fNext < 0 ∧ z = stepE e x) ∨ (0 ≤ x.fNext ∧ Rch l k x.fNext (stepE e x) z))
  | [], s, _, hg, hs => ⟨(true, s), rfl, hg, fun _ => ⟨hs, fun z => by simp⟩⟩
  | x :: r, s, hx, hg, hs => by
    have hx0 := hx x List.mem_cons_self
    obtain ⟨g1, g2, g3, g4⟩ := hg
    have hw : w64 (s.2 + 1) = s.2 + 1 := w64_id ⟨by omega, by omega⟩
    simp only [itemsL, hw]
    by_cases hc : s.2 + 1 > 20000
    · rw [decide_eq_true hc, cnd_true]
      exact ⟨_, rfl, ⟨by show (0 : Int) ≤ s.2 + 1; omega, by show s.2 + 1 ≤ (20001 : Int); omega, by show (s.1.length : Int) ≤ s.2 + 1; omega, g4⟩, fun h => nomatch h⟩
    · rw [decide_eq_false hc, cnd_false]
      obtain ⟨n1, n2⟩ := nextE_eq hm hx0 he hj
      rw [n1, bnd_some']
      by_cases hn : x.fNext < 0
      · rw [decide_eq_true hn, cnd_true, app_some 64 s.1 [stepE e x] (by simp only [List.length_cons, List.length_nil]; omega) (by simp only [List.length_cons, List.length_nil]; omega), bnd_some']
        have hg' : GF (s.1 ++ [stepE e x], s.2 + 1) := ⟨by show (0 : Int) ≤ s.2 + 1; omega, by show s.2 + 1 ≤ (20001 : Int); omega, by show ((s.1 ++ [stepE e x]).length : Int) ≤ s.2 + 1; rw [List.length_append]; simp only [List.length_cons, List.length_nil]; omega, fun y hy => by
          rcases List.mem_append.1 hy with hy | hy
          · exact g4 y hy
          · simp at hy; subst hy; have := n2.tags; omega⟩
        obtain ⟨o, o1, o2, o3⟩ := itemsL_ok hm l rec hr e he hj r _ (fun y hy => hx y (List.mem_cons_of_mem _ hy)) hg' (by show s.2 + 1 ≤ (20000 : Int); omega)
        refine ⟨o, o1, o2, fun ht => ⟨(o3 ht).1, fun z => ?_⟩⟩
        rw [(o3 ht).2 z, exM]
        have : ¬ (0 ≤ x.fNext ∧ Rch l k x.fNext (stepE e x) z) := fun h => by omega
        simp only [List.mem_append, List.mem_singleton, hn, true_and, this, or_false, or_assoc]
      · rw [decide_eq_false hn, cnd_false]
        obtain ⟨p, p1, p2, p3⟩ := hr x.fNext (stepE e x) (s.1, s.2 + 1) (by omega) hx0.next.2 n2 ⟨by show (0 : Int) ≤ s.2 + 1; omega, by show s.2 + 1 ≤ (20001 : Int); omega, by show (s.1.length : Int) ≤ s.2 + 1; omega, g4⟩ (by show s.2 + 1 ≤ (20000 : Int); omega)
        rw [p1, bnd_some']
        cases hp : p.1 with
        | false =>
          rw [Bool.not_false, cnd_true]
          exact ⟨_, rfl, p2, fun h => nomatch h⟩
        | true =>
          rw [Bool.not_true, cnd_false]
          obtain ⟨q1, q2⟩ := p3 hp
          obtain ⟨o, o1, o2, o3⟩ := itemsL_ok hm l rec hr e he hj r p.2 (fun y hy => hx y (List.mem_cons_of_mem _ hy)) p2 q1
          refine ⟨o, o1, o2, fun ht => ⟨(o3 ht).1, fun z => ?_⟩⟩
          rw [(o3 ht).2 z, exM, q2 z]
          have h0 : 0 ≤ x.fNext := by omega
          simp only [hn, false_and, false_or, h0, true_and, or_assoc]
theorem followL_ok {m : Nat} (hm : 3 ≤ m) (l : List S88) (hi : ∀ c ∈ l, ∀ x ∈ c.fItems, OkI l.length x) : ∀ (k : Nat), k ≤ 30 → Rec l k (followL m ⟨l⟩ k) (Bd (30 - k))
  | 0, _ => fun cls e s h1 h2 he hg hs => ⟨(true, s), rfl, hg, fun _ => ⟨hs, fun z => by simp [Rch]⟩⟩
  | k + 1, hk => fun cls e s h1 h2 he hg hs => by
    have ih := followL_ok hm l hi k (by omega)
    rw [show 30 - k = (30 - (k + 1)) + 1 by omega] at ih
    obtain ⟨c, hc⟩ : ∃ c, idx l cls = some c := by
      unfold idx
      rw [if_pos h1]
      exact ⟨_, List.getElem?_eq_getElem (by omega)⟩
    have hcm : c ∈ l := by
      unfold idx at hc
      rw [if_pos h1] at hc
      exact List.mem_of_getElem? hc
    obtain ⟨o, o1, o2, o3⟩ := itemsL_ok hm l (followL m ⟨l⟩ k) ih e he (by omega) c.fItems s (hi c hcm) hg hs
    refine ⟨o, ?_, o2, fun ht => ⟨(o3 ht).1, fun z => ?_⟩⟩
    · show bnd (idx l cls) _ = _
      rw [hc, bnd_some']; exact o1
    · rw [(o3 ht).2 z]
      constructor
      · rintro (h | ⟨x, hx, h⟩)
        · exact .inl h
        · exact .inr ⟨c, hc, x, hx, h⟩
      · rintro (h | ⟨c', hc', x, hx, h⟩)
        · exact .inl h
        · rw [hc] at hc'; cases hc'
          exact .inr ⟨x, hx, h⟩
end Go.Abs
