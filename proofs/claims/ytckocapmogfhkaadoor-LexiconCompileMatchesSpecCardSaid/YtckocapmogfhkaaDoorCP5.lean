import Derived.Test.YtckocapmogfhkaaDoorCP4
namespace Go.Abs
open Go.Sort Go.Proofs
set_option linter.unusedVariables false
set_option maxRecDepth 100000
def ptsI (s : ByteArray) : List Int := castL ((ptsS s).getD [])
theorem part_pts {s : ByteArray} (h : partS s = true) (m : Nat) (hm : 4001 < m) : f9 m s = some (ptsI s, ⟨0, 0⟩) ∧ f17 m s = some (ptsI s, ⟨0, 0⟩) ∧ (ptsI s).length ≤ 30 := by
 obtain ⟨L, h1, h2, h3, _⟩ := partS_spec h
 have e : ptsI s = castL L := by unfold ptsI; rw [h1]; rfl
 rw [e]
 exact ⟨(f9_eq m s hm).1 L (by omega) h1, (f17_eq m s hm).1 L (by omega) h1, by simpa [castL] using h2⟩
structure OkI (n : Nat) (x : S34) : Prop where
 base : partS x.fBase = true
 form : partS x.fForm = true
 tags : x.fTags.length ≤ 4
 next : -1 ≤ x.fNext ∧ x.fNext < n
 weight : 0 ≤ x.fWeight ∧ x.fWeight ≤ 1000000
theorem itemBad_ok {n : Nat} {x : S34} (h : itemBad n x = 0) : OkI n x := by
 unfold itemBad at h
 split at h
 ·simp at h
 ·rename_i h1
  have h1 : (partS x.fBase && partS x.fForm) = true := by simpa using h1
  rw [Bool.and_eq_true] at h1
  split at h
  ·simp at h
  ·split at h
   ·simp at h
   ·split at h
    ·simp at h
    ·rename_i h4 h5 h6
     exact ⟨h1.1, h1.2, by omega, ⟨by omega, by omega⟩, ⟨by omega, by omega⟩⟩
def inI (T : List ByteArray) (x : S34) : List Int := inL T x.fTags (ptsI x.fBase)
def toN (N : Int) (x : S34) : Int := if x.fNext ≥ 0 then x.fNext else N
def nI (T : List ByteArray) (x : S34) : Nat := stepsN (inI T x) (ptsI x.fForm)
def stepI (T : List ByteArray) (N i : Int) (s : Int × List S40) (x : S34) : Int × List S40 :=
 (s.1 + nI T x - 1, s.2 ++ arcsN i s.1 (toN N x) x.fWeight (inI T x) (ptsI x.fForm))
def foldI (T : List ByteArray) (N i : Int) (xs : List S34) (s : Int × List S40) : Int × List S40 := xs.foldl (stepI T N i) s
theorem foldI_snoc (T : List ByteArray) (N i : Int) (xs : List S34) (x : S34) (s : Int × List S40) : foldI T N i (xs ++ [x]) s = stepI T N i (foldI T N i xs s) x := by simp [foldI]
theorem nI_le {T : List ByteArray} {n : Nat} {x : S34} (hx : OkI n x) : 1 ≤ nI T x ∧ nI T x ≤ 34 ∧ (inI T x).length ≤ 34 ∧ (ptsI x.fForm).length ≤ 30 := by
 obtain ⟨_, _, h1⟩ := part_pts hx.base 5000 (by omega)
 obtain ⟨_, _, h2⟩ := part_pts hx.form 5000 (by omega)
 have h3 := inL_len T x.fTags (ptsI x.fBase)
 have h4 := hx.tags
 have h5 : (inI T x).length ≤ 34 := by unfold inI; omega
 unfold nI stepsN
 omega
theorem foldI_bd {T : List ByteArray} {N i : Int} {n : Nat} : ∀ (xs : List S34) (s : Int × List S40), (∀ x ∈ xs, OkI n x) →
  s.1 ≤ (foldI T N i xs s).1 ∧ (foldI T N i xs s).1 ≤ s.1 + 33 * xs.length ∧ (foldI T N i xs s).2.length ≤ s.2.length + 34 * xs.length ∧ ((foldI T N i xs s).2.length : Int) - (foldI T N i xs s).1 = (s.2.length : Int) - s.1 + xs.length
 | [], s, _ => ⟨Int.le_refl _, by simp [foldI], by simp [foldI], by simp [foldI]⟩
 | x :: r, s, h => by
  obtain ⟨a1, a2, _⟩ := nI_le (T := T) (h x List.mem_cons_self)
  have ih := foldI_bd (T := T) (N := N) (i := i) r (stepI T N i s x) fun y hy => h y (List.mem_cons_of_mem _ hy)
  have e1 : (stepI T N i s x).1 = s.1 + nI T x - 1 := rfl
  have e2 : (stepI T N i s x).2.length = s.2.length + nI T x := by
   show (s.2 ++ arcsN i s.1 (toN N x) x.fWeight (inI T x) (ptsI x.fForm)).length = _
   rw [List.length_append, arcsN_len]; rfl
  have e3 : foldI T N i (x :: r) s = foldI T N i r (stepI T N i s x) := rfl
  rw [e3]
  rw [e1, e2] at ih
  obtain ⟨i1, i2, i3, i4⟩ := ih
  simp only [List.length_cons]
  refine ⟨by omega, by omega, by omega, by push_cast; push_cast at i4; omega⟩
abbrev limS : S27 × S29 := (⟨0, [], []⟩, ⟨17, -1⟩)
theorem f4_item (m : Nat) (a0 : S23) (T : List ByteArray) (i : Int) (c : S37) (j : Nat) (S : Int) (A : List S40) (x : S34) {n : Nat} (hxj : c.fItems[j]? = some x) (hx : OkI n x) (hs : SS T) (hT : T.length ≤ 20000) (hj : j ≤ 1000) (hi : 0 ≤ i) (hS : 0 ≤ S) (hSb : S ≤ 500) (hA : A.length ≤ 500000) (hm : 200000 ≤ m) :
  (400 < (stepI T (a0.fClasses.length : Int) i (S, A) x).1 → f4_B7 m a0 T i c (j : Int) S A = some (.ret limS)) ∧
  (¬ 400 < (stepI T (a0.fClasses.length : Int) i (S, A) x).1 → f4_B7 m a0 T i c (j : Int) S A = some (.nxt (((j + 1 : Nat) : Int), (stepI T (a0.fClasses.length : Int) i (S, A) x).1, (stepI T (a0.fClasses.length : Int) i (S, A) x).2))) := by
 have hlt := lt_of_getElem? hxj
 obtain ⟨n1, n2, n3, n4⟩ := nI_le (T := T) hx
 obtain ⟨p1, _, p3⟩ := part_pts hx.base m (by omega)
 obtain ⟨q1, _, q3⟩ := part_pts hx.form m (by omega)
 have key : f4_B7 m a0 T i c (j : Int) S A = f4_j6 m i (j : Int) S A x (inI T x, (x.fTags.length : Int)) (ptsI x.fForm, ⟨0, 0⟩) (toN (a0.fClasses.length : Int) x) := by
  unfold f4_B7
  rw [decide_eq_true (by omega), cnd_true, idx_get, hxj, bnd_some', p1, bnd_some', f4_in m T x (ptsI x.fBase) hs hT hx.tags (by omega) hm, brk_inr, q1, bnd_some']
  unfold toN
  by_cases h : x.fNext ≥ 0
  ·rw [decide_eq_true h, cnd_true, if_pos h]; rfl
  ·rw [decide_eq_false h, cnd_false, if_neg h]; rfl
 have key2 : f4_j6 m i (j : Int) S A x (inI T x, (x.fTags.length : Int)) (ptsI x.fForm, ⟨0, 0⟩) (toN (a0.fClasses.length : Int) x) = cnd (decide ((stepI T (a0.fClasses.length : Int) i (S, A) x).1 > 400)) (some (.ret limS)) (some (.nxt (((j + 1 : Nat) : Int), (stepI T (a0.fClasses.length : Int) i (S, A) x).1, (stepI T (a0.fClasses.length : Int) i (S, A) x).2))) := by
  unfold f4_j6
  rw [f4_arcs m (inI T x, (x.fTags.length : Int)) (ptsI x.fForm, ⟨0, 0⟩) i S (toN (a0.fClasses.length : Int) x) x.fWeight A hi hS (by omega) (by omega) (by simp only; omega) (by simp only; omega) (by omega), brk_inr, w64_nat j (by omega)]
  rfl
 rw [key, key2]
 constructor
 ·intro h
  rw [decide_eq_true (by exact h), cnd_true]
 ·intro h
  rw [decide_eq_false (by exact h), cnd_false]
theorem f4_items (m : Nat) (a0 : S23) (T : List ByteArray) (i : Int) (c : S37) (s : Int × List S40) {n : Nat} (hc : ∀ x ∈ c.fItems, OkI n x) (hl : c.fItems.length ≤ 100) (hs : SS T) (hT : T.length ≤ 20000) (hi : 0 ≤ i) (hS : 0 ≤ s.1) (hSb : ¬ 400 < s.1) (hA : s.2.length ≤ 200000) (hm : 200000 ≤ m) :
  (400 < (foldI T (a0.fClasses.length : Int) i c.fItems s).1 → iter (fun (y : Int × Int × (List S40)) => f4_B7 m a0 T i c y.1 y.2.1 y.2.2) m (0, s.1, s.2) = some (.inl limS)) ∧
  (¬ 400 < (foldI T (a0.fClasses.length : Int) i c.fItems s).1 → iter (fun (y : Int × Int × (List S40)) => f4_B7 m a0 T i c y.1 y.2.1 y.2.2) m (0, s.1, s.2) = some (.inr ((c.fItems.length : Int), (foldI T (a0.fClasses.length : Int) i c.fItems s).1, (foldI T (a0.fClasses.length : Int) i c.fItems s).2))) := by
 have hF : ∀ j, (foldI T (a0.fClasses.length : Int) i (c.fItems.take j) s).1 ≥ s.1 ∧ (foldI T (a0.fClasses.length : Int) i (c.fItems.take j) s).2.length ≤ s.2.length + 3400 := by
  intro j
  obtain ⟨a1, a2, a3, _⟩ := foldI_bd (T := T) (N := (a0.fClasses.length : Int)) (i := i) (c.fItems.take j) s fun x hx => hc x (mem_take hx)
  rw [List.length_take] at a2 a3
  exact ⟨a1, by omega⟩
 have hmono : ∀ a b, a ≤ b → 400 < (foldI T (a0.fClasses.length : Int) i (c.fItems.take a) s).1 → 400 < (foldI T (a0.fClasses.length : Int) i (c.fItems.take b) s).1 := by
  intro a b hab h
  have e : c.fItems.take b = c.fItems.take a ++ (c.fItems.drop a).take (b - a) := by
   rw [← List.take_add]; congr 1; omega
  rw [e]
  have : foldI T (a0.fClasses.length : Int) i (c.fItems.take a ++ (c.fItems.drop a).take (b - a)) s = foldI T (a0.fClasses.length : Int) i ((c.fItems.drop a).take (b - a)) (foldI T (a0.fClasses.length : Int) i (c.fItems.take a) s) := List.foldl_append ..
  rw [this]
  have := (foldI_bd (T := T) (N := (a0.fClasses.length : Int)) (i := i) ((c.fItems.drop a).take (b - a)) (foldI T (a0.fClasses.length : Int) i (c.fItems.take a) s) fun x hx => hc x (List.mem_of_mem_drop (mem_take hx))).1
  omega
 have h := iter_out (fun (y : Int × Int × (List S40)) => f4_B7 m a0 T i c y.1 y.2.1 y.2.2) (fun j => ((j : Int), (foldI T (a0.fClasses.length : Int) i (c.fItems.take j) s).1, (foldI T (a0.fClasses.length : Int) i (c.fItems.take j) s).2))
  (fun j => 400 < (foldI T (a0.fClasses.length : Int) i (c.fItems.take j) s).1) hmono limS ((c.fItems.length : Int), (foldI T (a0.fClasses.length : Int) i c.fItems s).1, (foldI T (a0.fClasses.length : Int) i c.fItems s).2) m c.fItems.length 0 (by simpa [foldI] using hSb)
  (fun j _ hj hp => by
   obtain ⟨x, hxj⟩ : ∃ x, c.fItems[j]? = some x := ⟨_, List.getElem?_eq_getElem (by omega)⟩
   obtain ⟨b1, b2⟩ := hF j
   have := f4_item m a0 T i c j _ _ x hxj (hc x (List.mem_of_getElem? hxj)) hs hT (by omega) hi (show 0 ≤ (foldI T (a0.fClasses.length : Int) i (c.fItems.take j) s).1 by omega) (by omega) (show (foldI T (a0.fClasses.length : Int) i (c.fItems.take j) s).2.length ≤ 500000 by omega) hm
   have e : foldI T (a0.fClasses.length : Int) i (c.fItems.take (j + 1)) s = stepI T (a0.fClasses.length : Int) i ((foldI T (a0.fClasses.length : Int) i (c.fItems.take j) s).1, (foldI T (a0.fClasses.length : Int) i (c.fItems.take j) s).2) x := by
    rw [take_snoc hxj, foldI_snoc]
   simp only [e]
   exact this)
  (fun hp => by
   show f4_B7 m a0 T i c ((0 + c.fItems.length : Nat) : Int) _ _ = _
   rw [Nat.zero_add]
   unfold f4_B7
   rw [decide_eq_false (by omega), cnd_false, List.take_length]) (by omega)
 rw [Nat.zero_add] at h
 simp only [List.take_length, List.take_zero] at h
 exact h
def foldC (T : List ByteArray) (N : Int) : Nat → List S37 → Int × List S40 → Int × List S40
 | _, [], s => s
 | i, c :: r, s => foldC T N (i + 1) r (foldI T N (i : Int) c.fItems s)
theorem foldC_snoc (T : List ByteArray) (N : Int) (c : S37) : ∀ (cs : List S37) (i : Nat) (s : Int × List S40), foldC T N i (cs ++ [c]) s = foldI T N ((i + cs.length : Nat) : Int) c.fItems (foldC T N i cs s)
 | [], i, s => rfl
 | d :: r, i, s => by
  show foldC T N (i + 1) (r ++ [c]) _ = foldI T N ((i + (r.length + 1) : Nat) : Int) c.fItems (foldC T N (i + 1) r _)
  rw [foldC_snoc T N c r (i + 1), show i + 1 + r.length = i + (r.length + 1) by omega]
theorem foldC_bd {T : List ByteArray} {N : Int} {n : Nat} : ∀ (cs : List S37) (i : Nat) (s : Int × List S40), (∀ c ∈ cs, c.fItems.length ≤ 100) → (∀ c ∈ cs, ∀ x ∈ c.fItems, OkI n x) →
  s.1 ≤ (foldC T N i cs s).1 ∧ (foldC T N i cs s).1 ≤ s.1 + 3300 * cs.length ∧ (foldC T N i cs s).2.length ≤ s.2.length + 3400 * cs.length ∧ ((foldC T N i cs s).2.length : Int) - (foldC T N i cs s).1 ≤ (s.2.length : Int) - s.1 + 100 * cs.length
 | [], i, s, _, _ => ⟨Int.le_refl _, by simp [foldC], by simp [foldC], by simp [foldC]⟩
 | c :: r, i, s, h1, h2 => by
  have hl := h1 c List.mem_cons_self
  obtain ⟨a1, a2, a3, a4⟩ := foldI_bd (T := T) (N := N) (i := (i : Int)) c.fItems s (h2 c List.mem_cons_self)
  obtain ⟨b1, b2, b3, b4⟩ := foldC_bd (T := T) (N := N) r (i + 1) (foldI T N (i : Int) c.fItems s) (fun d hd => h1 d (List.mem_cons_of_mem _ hd)) fun d hd => h2 d (List.mem_cons_of_mem _ hd)
  have e : foldC T N i (c :: r) s = foldC T N (i + 1) r (foldI T N (i : Int) c.fItems s) := rfl
  rw [e]
  simp only [List.length_cons]
  refine ⟨by omega, by push_cast; omega, by omega, by push_cast; omega⟩
theorem OkL.okI {l : List S37} (h : OkL l) : ∀ c ∈ l, ∀ x ∈ c.fItems, OkI l.length x := fun c hc x hx => itemBad_ok (h.item c hc x hx)
def arcsL (l : List S37) : Int × List S40 := foldC (tagsL l) (l.length : Int) 0 l ((l.length : Int) + 1, [])
theorem tagsL_ss (l : List S37) : SS (tagsL l) := (setS_spec _).1
theorem tagsL_len {l : List S37} (h : OkL l) : (tagsL l).length ≤ 16000 := by
 rw [tagsL_R]
 have h1 := tagsR_len (tagsC l) []
 have h2 := tagsC_len l h.items h.item
 have h3 := h.len
 simp only [List.length_nil] at h1
 omega
theorem f4_classes (m : Nat) (a0 : S23) (ho : OkL a0.fClasses) (hm : 200000 ≤ m) :
  (400 < (arcsL a0.fClasses).1 → iter (fun (y : Int × Int × (List S40)) => f4_B8 m a0 (tagsL a0.fClasses) y.1 y.2.1 y.2.2) m (0, (a0.fClasses.length : Int) + 1, []) = some (.inl limS)) ∧
  (¬ 400 < (arcsL a0.fClasses).1 → iter (fun (y : Int × Int × (List S40)) => f4_B8 m a0 (tagsL a0.fClasses) y.1 y.2.1 y.2.2) m (0, (a0.fClasses.length : Int) + 1, []) = some (.inr ((a0.fClasses.length : Int), (arcsL a0.fClasses).1, (arcsL a0.fClasses).2))) := by
 have hl := ho.len
 have hT := tagsL_len ho
 generalize hTe : tagsL a0.fClasses = T at *
 have hs : SS T := hTe ▸ tagsL_ss _
 have hi := ho.okI
 let F := fun j => foldC T (a0.fClasses.length : Int) 0 (a0.fClasses.take j) ((a0.fClasses.length : Int) + 1, [])
 have hF : ∀ j, (a0.fClasses.length : Int) + 1 ≤ (F j).1 ∧ (F j).2.length ≤ 136000 := by
  intro j
  obtain ⟨a1, a2, a3, _⟩ := foldC_bd (T := T) (N := (a0.fClasses.length : Int)) (a0.fClasses.take j) 0 ((a0.fClasses.length : Int) + 1, []) (fun c hc => ho.items c (mem_take hc)) fun c hc => hi c (mem_take hc)
  rw [List.length_take] at a2 a3
  have e0 : (((a0.fClasses.length : Int) + 1, ([] : List S40))).2.length = 0 := rfl
  rw [e0] at a3
  refine ⟨a1, ?_⟩
  show (foldC T (a0.fClasses.length : Int) 0 (a0.fClasses.take j) ((a0.fClasses.length : Int) + 1, [])).2.length ≤ 136000
  omega
 have hstep : ∀ j c, a0.fClasses[j]? = some c → F (j + 1) = foldI T (a0.fClasses.length : Int) (j : Int) c.fItems (F j) := by
  intro j c hc
  have hlt := lt_of_getElem? hc
  show foldC T _ 0 (a0.fClasses.take (j + 1)) _ = _
  rw [take_snoc hc, foldC_snoc, Nat.zero_add, List.length_take, Nat.min_eq_left (by omega)]
 have hmono1 : ∀ j, 400 < (F j).1 → 400 < (F (j + 1)).1 := by
  intro j h
  rcases Nat.lt_or_ge j a0.fClasses.length with hj | hj
  ·obtain ⟨c, hc⟩ : ∃ c, a0.fClasses[j]? = some c := ⟨_, List.getElem?_eq_getElem hj⟩
   rw [hstep j c hc]
   have := (foldI_bd (T := T) (N := (a0.fClasses.length : Int)) (i := (j : Int)) c.fItems (F j) (hi c (List.mem_of_getElem? hc))).1
   omega
  ·have : F (j + 1) = F j := by
    show foldC T _ 0 (a0.fClasses.take (j + 1)) _ = foldC T _ 0 (a0.fClasses.take j) _
    rw [List.take_of_length_le (by omega), List.take_of_length_le (by omega)]
   rw [this]; exact h
 have hmono : ∀ a b, a ≤ b → 400 < (F a).1 → 400 < (F b).1 := by
  intro a b hab h
  induction b with
  | zero =>
   obtain rfl : a = 0 := by omega
   exact h
  | succ b ih =>
   rcases Nat.lt_or_ge b a with g | g
   ·obtain rfl : a = b + 1 := by omega
    exact h
   ·exact hmono1 b (ih g)
 have hE : arcsL a0.fClasses = F a0.fClasses.length := by
  show foldC (tagsL a0.fClasses) _ 0 a0.fClasses _ = foldC T _ 0 (a0.fClasses.take a0.fClasses.length) _
  rw [List.take_length, hTe]
 have h := iter_out (fun (y : Int × Int × (List S40)) => f4_B8 m a0 T y.1 y.2.1 y.2.2) (fun j => ((j : Int), (F j).1, (F j).2)) (fun j => 400 < (F j).1) hmono limS ((a0.fClasses.length : Int), (F a0.fClasses.length).1, (F a0.fClasses.length).2) m a0.fClasses.length 0
  (by show ¬ 400 < (a0.fClasses.length : Int) + 1; omega)
  (fun j _ hj hp => by
   obtain ⟨c, hc⟩ : ∃ c, a0.fClasses[j]? = some c := ⟨_, List.getElem?_eq_getElem (by omega)⟩
   obtain ⟨b1, b2⟩ := hF j
   have hmem := List.mem_of_getElem? hc
   have := f4_items m a0 T (j : Int) c (F j) (hi c hmem) (ho.items c hmem) hs (by omega) (by omega) (by omega) hp (by omega) hm
   rw [← hstep j c hc] at this
   constructor
   ·intro g
    show f4_B8 m a0 T (j : Int) (F j).1 (F j).2 = _
    unfold f4_B8
    rw [decide_eq_true (by omega), cnd_true, idx_get, hc, bnd_some', this.1 g, brk_inl]
   ·intro g
    show f4_B8 m a0 T (j : Int) (F j).1 (F j).2 = _
    unfold f4_B8
    rw [decide_eq_true (by omega), cnd_true, idx_get, hc, bnd_some', this.2 g, brk_inr, w64_nat j (by omega)])
  (fun hp => by
   show f4_B8 m a0 T ((0 + a0.fClasses.length : Nat) : Int) _ _ = _
   rw [Nat.zero_add]
   unfold f4_B8
   rw [decide_eq_false (by omega), cnd_false]) (by omega)
 rw [Nat.zero_add] at h
 rw [hE]
 exact h
theorem f6_item (m : Nat) (a0 : S23) (T : List ByteArray) (i : Int) (c : S37) (j : Nat) (S : Int) (A : List S40) (x : S34) {n : Nat} (hxj : c.fItems[j]? = some x) (hx : OkI n x) (hs : SS T) (hT : T.length ≤ 20000) (hmem : ∀ t ∈ x.fTags, t ∈ T) (hj : j ≤ 1000) (hi : 0 ≤ i) (hS : 0 ≤ S) (hSb : S ≤ 500000) (hA : A.length ≤ 500000) (hm : 200000 ≤ m) :
  f6_B13 m a0 T i c (j : Int) S A = some (.nxt (((j + 1 : Nat) : Int), (stepI T (a0.fClasses.length : Int) i (S, A) x).1, (stepI T (a0.fClasses.length : Int) i (S, A) x).2)) := by
 have hlt := lt_of_getElem? hxj
 obtain ⟨n1, n2, n3, n4⟩ := nI_le (T := T) hx
 obtain ⟨_, p1, p3⟩ := part_pts hx.base m (by omega)
 obtain ⟨_, q1, q3⟩ := part_pts hx.form m (by omega)
 have key : f6_B13 m a0 T i c (j : Int) S A = f6_j11 m a0 i (j : Int) S A x (inI T x, (x.fTags.length : Int)) (ptsI x.fForm, ⟨0, 0⟩) (nI T x : Int) := by
  unfold f6_B13
  rw [decide_eq_true (by omega), cnd_true, idx_get, hxj, bnd_some', p1, bnd_some', f6_in m T x (ptsI x.fBase) hs hT hmem hx.tags (by omega) hm, brk_inr, q1, bnd_some']
  show cnd (decide (((inI T x).length : Int) > 1)) (f6_j12 m a0 i (j : Int) S A x (inI T x, (x.fTags.length : Int)) (ptsI x.fForm, ⟨0, 0⟩) ((inI T x).length : Int)) (f6_j12 m a0 i (j : Int) S A x (inI T x, (x.fTags.length : Int)) (ptsI x.fForm, ⟨0, 0⟩) 1) = _
  have e12 : ∀ v : Int, f6_j12 m a0 i (j : Int) S A x (inI T x, (x.fTags.length : Int)) (ptsI x.fForm, ⟨0, 0⟩) v = f6_j11 m a0 i (j : Int) S A x (inI T x, (x.fTags.length : Int)) (ptsI x.fForm, ⟨0, 0⟩) (if ((ptsI x.fForm).length : Int) > v then ((ptsI x.fForm).length : Int) else v) := by
   intro v
   unfold f6_j12
   by_cases h : ((ptsI x.fForm).length : Int) > v
   ·rw [decide_eq_true (by exact h), cnd_true, if_pos h]
   ·rw [decide_eq_false (by exact h), cnd_false, if_neg h]
  rw [e12, e12]
  have hn : nI T x = max (max (inI T x).length (ptsI x.fForm).length) 1 := rfl
  by_cases h : ((inI T x).length : Int) > 1
  ·rw [decide_eq_true h, cnd_true]
   congr 1
   split <;> omega
  ·rw [decide_eq_false h, cnd_false]
   congr 1
   split <;> omega
 rw [key]
 unfold f6_j11
 have ha := f6_arcs m a0 i S (toN (a0.fClasses.length : Int) x) x (inI T x, (x.fTags.length : Int)) (ptsI x.fForm, ⟨0, 0⟩) A rfl hi hS (by omega) (by omega) (by simp only; omega) (by simp only; omega) (by omega)
 have ha : iter (fun (z : Int × (List S40)) => f6_B10 m a0 i S x (inI T x, (x.fTags.length : Int)) (ptsI x.fForm, ⟨0, 0⟩) (nI T x : Int) z.1 z.2) m (0, A) = _ := ha
 rw [ha, brk_inr, w64_nat j (by omega)]
 have e1 : w64 ((nI T x : Int) - 1) = (nI T x : Int) - 1 := w64_id ⟨by omega, by omega⟩
 have e2 : w64 (S + ((nI T x : Int) - 1)) = S + (nI T x : Int) - 1 := by rw [w64_id ⟨by omega, by omega⟩]; omega
 rw [e1, e2]
 rfl
theorem tags_mem {l : List S37} {c : S37} {x : S34} {t : ByteArray} (hc : c ∈ l) (hx : x ∈ c.fItems) (ht : t ∈ x.fTags) : t ∈ tagsL l := by
 refine ((setS_spec _).2 t).2 ?_
 exact List.mem_flatMap.2 ⟨c, hc, List.mem_flatMap.2 ⟨x, hx, ht⟩⟩
theorem f6_items (m : Nat) (a0 : S23) (T : List ByteArray) (i : Int) (c : S37) (s : Int × List S40) {n : Nat} (hc : ∀ x ∈ c.fItems, OkI n x) (hl : c.fItems.length ≤ 100) (hs : SS T) (hT : T.length ≤ 20000) (hmem : ∀ x ∈ c.fItems, ∀ t ∈ x.fTags, t ∈ T) (hi : 0 ≤ i) (hS : 0 ≤ s.1) (hSb : s.1 ≤ 400000) (hA : s.2.length ≤ 400000) (hm : 200000 ≤ m) :
  iter (fun (y : Int × Int × (List S40)) => f6_B13 m a0 T i c y.1 y.2.1 y.2.2) m (0, s.1, s.2) = some (.inr ((c.fItems.length : Int), (foldI T (a0.fClasses.length : Int) i c.fItems s).1, (foldI T (a0.fClasses.length : Int) i c.fItems s).2)) := by
 refine iter_at (fun (y : Int × Int × (List S40)) => f6_B13 m a0 T i c y.1 y.2.1 y.2.2) (fun j => ((j : Int), (foldI T (a0.fClasses.length : Int) i (c.fItems.take j) s).1, (foldI T (a0.fClasses.length : Int) i (c.fItems.take j) s).2)) c.fItems.length rfl (fun j hj => ?_) ?_ (by omega)
 ·obtain ⟨x, hxj⟩ : ∃ x, c.fItems[j]? = some x := ⟨_, List.getElem?_eq_getElem (by omega)⟩
  obtain ⟨a1, a2, a3, _⟩ := foldI_bd (T := T) (N := (a0.fClasses.length : Int)) (i := i) (c.fItems.take j) s fun x hx => hc x (mem_take hx)
  rw [List.length_take] at a2 a3
  have hm' := List.mem_of_getElem? hxj
  have e : foldI T (a0.fClasses.length : Int) i (c.fItems.take (j + 1)) s = stepI T (a0.fClasses.length : Int) i ((foldI T (a0.fClasses.length : Int) i (c.fItems.take j) s).1, (foldI T (a0.fClasses.length : Int) i (c.fItems.take j) s).2) x := by
   rw [take_snoc hxj, foldI_snoc]
  have h1 := f6_item m a0 T i c j (foldI T (a0.fClasses.length : Int) i (c.fItems.take j) s).1 (foldI T (a0.fClasses.length : Int) i (c.fItems.take j) s).2 x hxj (hc x hm') hs hT (hmem x hm') (by omega) hi (by omega) (by omega) (by omega) hm
  rw [← e] at h1
  exact h1
 ·show f6_B13 m a0 T i c (c.fItems.length : Int) _ _ = _
  unfold f6_B13
  rw [decide_eq_false (by omega), cnd_false, List.take_length]
theorem f6_classes (m : Nat) (a0 : S23) (ho : OkL a0.fClasses) (hm : 200000 ≤ m) :
  iter (fun (y : Int × Int × (List S40)) => f6_B14 m a0 (tagsL a0.fClasses) y.1 y.2.1 y.2.2) m (0, (a0.fClasses.length : Int) + 1, []) = some (.inr ((a0.fClasses.length : Int), (arcsL a0.fClasses).1, (arcsL a0.fClasses).2)) := by
 have hl := ho.len
 have hT := tagsL_len ho
 have hi := ho.okI
 have hs := tagsL_ss a0.fClasses
 refine iter_at (fun (y : Int × Int × (List S40)) => f6_B14 m a0 (tagsL a0.fClasses) y.1 y.2.1 y.2.2) (fun j => ((j : Int), (foldC (tagsL a0.fClasses) (a0.fClasses.length : Int) 0 (a0.fClasses.take j) ((a0.fClasses.length : Int) + 1, [])).1, (foldC (tagsL a0.fClasses) (a0.fClasses.length : Int) 0 (a0.fClasses.take j) ((a0.fClasses.length : Int) + 1, [])).2)) a0.fClasses.length rfl (fun j hj => ?_) ?_ (by omega)
 ·obtain ⟨c, hc⟩ : ∃ c, a0.fClasses[j]? = some c := ⟨_, List.getElem?_eq_getElem (by omega)⟩
  have hmem := List.mem_of_getElem? hc
  obtain ⟨a1, a2, a3, _⟩ := foldC_bd (T := tagsL a0.fClasses) (N := (a0.fClasses.length : Int)) (a0.fClasses.take j) 0 ((a0.fClasses.length : Int) + 1, []) (fun c hc => ho.items c (mem_take hc)) fun c hc => hi c (mem_take hc)
  rw [List.length_take] at a2 a3
  have e0 : (((a0.fClasses.length : Int) + 1, ([] : List S40))).2.length = 0 := rfl
  rw [e0] at a3
  simp only at a1 a2
  show f6_B14 m a0 (tagsL a0.fClasses) (j : Int) _ _ = _
  unfold f6_B14
  rw [decide_eq_true (by omega), cnd_true, idx_get, hc, bnd_some', f6_items m a0 _ (j : Int) c (foldC (tagsL a0.fClasses) (a0.fClasses.length : Int) 0 (a0.fClasses.take j) ((a0.fClasses.length : Int) + 1, [])) (hi c hmem) (ho.items c hmem) hs (by omega) (fun x hx t ht => tags_mem hmem hx ht) (by omega) (by omega) (by omega) (by omega) hm, brk_inr, w64_nat j (by omega), take_snoc hc, foldC_snoc, Nat.zero_add, List.length_take, Nat.min_eq_left (by omega)]
 ·show f6_B14 m a0 (tagsL a0.fClasses) (a0.fClasses.length : Int) _ _ = _
  unfold f6_B14
  rw [decide_eq_false (by omega), cnd_false, List.take_length]
  rfl
end Go.Abs
