import Derived.Test.YtmoiipfomcgomaaGreatDoorAbsV
namespace Go.Abs
set_option linter.unusedVariables false
def on (h : List Bool) (i : Nat) : Bool := h.getD i false
theorem on_set {h : List Bool} {i j : Nat} (hi : i < h.length) : on (h.set i true) j = (decide (j = i) || on h j) := by
 unfold on
 rw [List.getD_eq_getElem?_getD, List.getElem?_set, List.getD_eq_getElem?_getD]
 by_cases e : i = j
 ·subst e; simp [hi]
 ·rw [if_neg e]
  have : decide (j = i) = false := decide_eq_false fun h => e h.symm
  rw [this, Bool.false_or]
theorem on_lt {h : List Bool} {i : Nat} (hi : on h i = true) : i < h.length := by
 rcases Nat.lt_or_ge i h.length with g | g
 ·exact g
 ·unfold on at hi
  rw [List.getD_eq_getElem?_getD, List.getElem?_eq_none g] at hi
  cases hi
theorem on_get {h : List Bool} {i : Nat} (hi : i < h.length) : h[i]? = some (on h i) := by
 unfold on
 rw [List.getD_eq_getElem?_getD, List.getElem?_eq_getElem hi]; rfl
section
variable {A : Type} (fr to : A → Nat) (e : A → Bool)
def stepS (h : List Bool) (a : A) : List Bool := if e a && on h (fr a) then h.set (to a) true else h
def passE (arcs : List A) (h : List Bool) : List Bool := arcs.foldl (stepS fr to e) h
def itE (arcs : List A) : Nat → List Bool → List Bool
 | 0, h => h
 | k + 1, h => itE arcs k (passE fr to e arcs h)
inductive RE (arcs : List A) (h : List Bool) : Nat → Prop
 | base {i : Nat} : on h i = true → RE arcs h i
 | step {a : A} : a ∈ arcs → e a = true → RE arcs h (fr a) → RE arcs h (to a)
variable {fr to e}
theorem stepS_len (h : List Bool) (a : A) : (stepS fr to e h a).length = h.length := by
 unfold stepS; split <;> simp
theorem stepS_keep {h : List Bool} {a : A} (ht : to a < h.length) {i : Nat} (hi : on h i = true) : on (stepS fr to e h a) i = true := by
 unfold stepS
 split
 ·rw [on_set ht, hi, Bool.or_true]
 ·exact hi
theorem stepS_new {h : List Bool} {a : A} (ht : to a < h.length) (he : e a = true) (hf : on h (fr a) = true) : on (stepS fr to e h a) (to a) = true := by
 unfold stepS
 rw [if_pos (by rw [he, hf]; rfl), on_set ht]
 simp
theorem stepS_of {h : List Bool} {a : A} (ht : to a < h.length) {i : Nat} (hi : on (stepS fr to e h a) i = true) : on h i = true ∨ (i = to a ∧ e a = true ∧ on h (fr a) = true) := by
 unfold stepS at hi
 split at hi
 ·rename_i hc
  rw [on_set ht, Bool.or_eq_true, decide_eq_true_eq] at hi
  rw [Bool.and_eq_true] at hc
  rcases hi with rfl | hi
  ·exact .inr ⟨rfl, hc.1, hc.2⟩
  ·exact .inl hi
 ·exact .inl hi
theorem set_true_same {h : List Bool} {i : Nat} (hi : on h i = true) : h.set i true = h := by
 refine List.ext_getElem? fun j => ?_
 rw [List.getElem?_set]
 by_cases e : i = j
 ·subst e
  rw [if_pos rfl, if_pos (on_lt hi), on_get (on_lt hi), hi]
 ·rw [if_neg e]
def falses (h : List Bool) : Nat := h.count false
theorem falses_set : ∀ {h : List Bool} {i : Nat}, i < h.length → on h i = false → falses (h.set i true) + 1 = falses h
 | [], i, hi, _ => absurd hi (Nat.not_lt_zero _)
 | x :: r, 0, _, h0 => by
  have : x = false := h0
  subst this
  show List.count false (true :: r) + 1 = List.count false (false :: r)
  simp
 | x :: r, i + 1, hi, h0 => by
  have ih := falses_set (h := r) (i := i) (by simpa using hi) (by simpa [on] using h0)
  unfold falses at ih ⊢
  rw [List.set_cons_succ, List.count_cons, List.count_cons]
  omega
theorem stepS_falses {h : List Bool} {a : A} (ht : to a < h.length) : stepS fr to e h a = h ∨ falses (stepS fr to e h a) < falses h := by
 unfold stepS
 split
 ·cases hc : on h (to a) with
  | true => exact .inl (set_true_same hc)
  | false =>
   right
   have := falses_set ht hc
   omega
 ·exact .inl rfl
theorem passE_len (arcs : List A) (h : List Bool) : (passE fr to e arcs h).length = h.length := by
 unfold passE
 induction arcs generalizing h with
 | nil => rfl
 | cons a r ih => rw [List.foldl_cons, ih, stepS_len]
theorem passE_keep : ∀ {arcs : List A} {h : List Bool}, (∀ a ∈ arcs, to a < h.length) → ∀ {i : Nat}, on h i = true → on (passE fr to e arcs h) i = true
 | [], h, _, i, hi => hi
 | a :: r, h, ht, i, hi => by
  show on (passE fr to e r (stepS fr to e h a)) i = true
  exact passE_keep (fun b hb => by rw [stepS_len]; exact ht b (List.mem_cons_of_mem _ hb)) (stepS_keep (ht a List.mem_cons_self) hi)
theorem passE_falses : ∀ {arcs : List A} {h : List Bool}, (∀ a ∈ arcs, to a < h.length) → passE fr to e arcs h = h ∨ falses (passE fr to e arcs h) < falses h
 | [], h, _ => .inl rfl
 | a :: r, h, ht => by
  have h1 := stepS_falses (fr := fr) (e := e) (ht a List.mem_cons_self)
  have h2 := passE_falses (arcs := r) (h := stepS fr to e h a) (fun b hb => by rw [stepS_len]; exact ht b (List.mem_cons_of_mem _ hb))
  show passE fr to e r (stepS fr to e h a) = h ∨ falses (passE fr to e r (stepS fr to e h a)) < falses h
  rcases h1 with h1 | h1
  ·rw [h1] at h2 ⊢; exact h2
  ·rcases h2 with h2 | h2
   ·rw [h2]; exact .inr h1
   ·exact .inr (by omega)
theorem passE_new : ∀ {arcs : List A} {h : List Bool}, (∀ a ∈ arcs, to a < h.length) → ∀ a ∈ arcs, e a = true → on h (fr a) = true → on (passE fr to e arcs h) (to a) = true
 | [], h, _, a, ha, _, _ => by cases ha
 | b :: r, h, ht, a, ha, he, hf => by
  have ht' : ∀ c ∈ r, to c < (stepS fr to e h b).length := fun c hc => by rw [stepS_len]; exact ht c (List.mem_cons_of_mem _ hc)
  show on (passE fr to e r (stepS fr to e h b)) (to a) = true
  rcases List.mem_cons.1 ha with rfl | ha
  ·exact passE_keep ht' (stepS_new (ht a List.mem_cons_self) he hf)
  ·exact passE_new ht' a ha he (stepS_keep (ht b List.mem_cons_self) hf)
theorem passE_of : ∀ {arcs : List A} {all : List A} {g h : List Bool}, (∀ a ∈ arcs, a ∈ all) → (∀ a ∈ arcs, to a < h.length) → (∀ i, on h i = true → RE fr to e all g i) → ∀ i, on (passE fr to e arcs h) i = true → RE fr to e all g i
 | [], all, g, h, _, _, hr, i, hi => hr i hi
 | a :: r, all, g, h, hall, ht, hr, i, hi => by
  refine passE_of (arcs := r) (h := stepS fr to e h a) (fun b hb => hall b (List.mem_cons_of_mem _ hb)) (fun b hb => by rw [stepS_len]; exact ht b (List.mem_cons_of_mem _ hb)) (fun j hj => ?_) i hi
  rcases stepS_of (ht a List.mem_cons_self) hj with hj | ⟨rfl, he, hf⟩
  ·exact hr j hj
  ·exact .step (hall a List.mem_cons_self) he (hr _ hf)
theorem itE_len (arcs : List A) : ∀ (k : Nat) (h : List Bool), (itE fr to e arcs k h).length = h.length
 | 0, h => rfl
 | k + 1, h => by
  show (itE fr to e arcs k (passE fr to e arcs h)).length = _
  rw [itE_len arcs k, passE_len]
theorem itE_same {arcs : List A} {h : List Bool} (hs : passE fr to e arcs h = h) : ∀ k, itE fr to e arcs k h = h
 | 0 => rfl
 | k + 1 => by
  show itE fr to e arcs k (passE fr to e arcs h) = h
  rw [hs]; exact itE_same hs k
theorem itE_fix {arcs : List A} : ∀ (k : Nat) (h : List Bool), (∀ a ∈ arcs, to a < h.length) → falses h ≤ k → passE fr to e arcs (itE fr to e arcs k h) = itE fr to e arcs k h
 | 0, h, ht, hk => by
  rcases passE_falses (fr := fr) (e := e) ht with g | g
  ·exact g
  ·omega
 | k + 1, h, ht, hk => by
  rcases passE_falses (fr := fr) (e := e) ht with g | g
  ·rw [itE_same g]; exact g
  ·exact itE_fix k (passE fr to e arcs h) (fun a ha => by rw [passE_len]; exact ht a ha) (by omega)
theorem itE_keep {arcs : List A} : ∀ (k : Nat) (h : List Bool), (∀ a ∈ arcs, to a < h.length) → ∀ {i : Nat}, on h i = true → on (itE fr to e arcs k h) i = true
 | 0, h, _, i, hi => hi
 | k + 1, h, ht, i, hi => itE_keep k (passE fr to e arcs h) (fun a ha => by rw [passE_len]; exact ht a ha) (passE_keep ht hi)
theorem itE_of {arcs : List A} : ∀ (k : Nat) (g h : List Bool), (∀ a ∈ arcs, to a < h.length) → (∀ i, on h i = true → RE fr to e arcs g i) → ∀ i, on (itE fr to e arcs k h) i = true → RE fr to e arcs g i
 | 0, g, h, _, hr, i, hi => hr i hi
 | k + 1, g, h, ht, hr, i, hi => itE_of k g (passE fr to e arcs h) (fun a ha => by rw [passE_len]; exact ht a ha) (passE_of (fun _ h => h) ht hr) i hi
theorem falses_le (h : List Bool) : falses h ≤ h.length := List.count_le_length
theorem itE_iff {arcs : List A} {h : List Bool} (ht : ∀ a ∈ arcs, to a < h.length) {k : Nat} (hk : h.length ≤ k) (i : Nat) : on (itE fr to e arcs k h) i = true ↔ RE fr to e arcs h i := by
 constructor
 ·exact itE_of k h h ht (fun i hi => .base hi) i
 ·intro hr
  have hf := itE_fix (fr := fr) (e := e) k h ht (Nat.le_trans (falses_le h) hk)
  induction hr with
  | base hi => exact itE_keep k h ht hi
  | step ha he _ ih =>
   have := passE_new (h := itE fr to e arcs k h) (fun b hb => by rw [itE_len]; exact ht b hb) _ ha he ih
   rw [hf] at this
   exact this
end
section
variable {A : Type} (fr to : A → Nat) (lb : A → Int)
inductive Pth (arcs : List A) : Nat → List Int → Nat → Prop
 | nil (s : Nat) : Pth arcs s [] s
 | eps {a : A} {w : List Int} {t : Nat} : a ∈ arcs → lb a = 0 → Pth arcs (to a) w t → Pth arcs (fr a) w t
 | lab {a : A} {x : Int} {w : List Int} {t : Nat} : a ∈ arcs → lb a = x → x ≠ 0 → Pth arcs (to a) w t → Pth arcs (fr a) (x :: w) t
def stepL (x : Int) (arcs : List A) (n : Nat) (h : List Bool) : List Bool := arcs.foldl (fun g a => if lb a == x && on h (fr a) then g.set (to a) true else g) (List.replicate n false)
def runA (arcs : List A) (n : Nat) : List Int → List Bool → List Bool
 | [], h => h
 | x :: w, h => runA arcs n w (itE fr to (fun a => lb a == 0) arcs n (stepL fr to lb x arcs n h))
variable {fr to lb}
theorem on_replicate (n i : Nat) : on (List.replicate n false) i = false := by
 unfold on
 rw [List.getD_eq_getElem?_getD, List.getElem?_replicate]
 split <;> rfl
theorem stepL_gen (x : Int) (h : List Bool) : ∀ (arcs : List A) (g : List Bool), (∀ a ∈ arcs, to a < g.length) →
  (arcs.foldl (fun g a => if lb a == x && on h (fr a) then g.set (to a) true else g) g).length = g.length ∧
  ∀ i, on (arcs.foldl (fun g a => if lb a == x && on h (fr a) then g.set (to a) true else g) g) i = true ↔ on g i = true ∨ ∃ a ∈ arcs, lb a = x ∧ on h (fr a) = true ∧ to a = i
 | [], g, _ => ⟨rfl, fun i => ⟨fun h => .inl h, fun h => by
   rcases h with h | ⟨a, ha, _⟩
   ·exact h
   ·cases ha⟩⟩
 | a :: r, g, ht => by
  rw [List.foldl_cons]
  by_cases hc : (lb a == x && on h (fr a)) = true
  ·rw [if_pos hc]
   rw [Bool.and_eq_true, beq_iff_eq] at hc
   obtain ⟨h1, h2⟩ := stepL_gen x h r (g.set (to a) true) (fun b hb => by rw [List.length_set]; exact ht b (List.mem_cons_of_mem _ hb))
   refine ⟨by rw [h1, List.length_set], fun i => ?_⟩
   rw [h2, on_set (ht a List.mem_cons_self), Bool.or_eq_true, decide_eq_true_eq]
   constructor
   ·rintro ((rfl | h) | ⟨b, hb, g1⟩)
    ·exact .inr ⟨a, List.mem_cons_self, hc.1, hc.2, rfl⟩
    ·exact .inl h
    ·exact .inr ⟨b, List.mem_cons_of_mem _ hb, g1⟩
   ·rintro (h | ⟨b, hb, g1⟩)
    ·exact .inl (.inr h)
    ·rcases List.mem_cons.1 hb with rfl | hb
     ·exact .inl (.inl g1.2.2.symm)
     ·exact .inr ⟨b, hb, g1⟩
  ·rw [if_neg hc]
   obtain ⟨h1, h2⟩ := stepL_gen x h r g (fun b hb => ht b (List.mem_cons_of_mem _ hb))
   refine ⟨h1, fun i => ?_⟩
   rw [h2]
   constructor
   ·rintro (h | ⟨b, hb, g1⟩)
    ·exact .inl h
    ·exact .inr ⟨b, List.mem_cons_of_mem _ hb, g1⟩
   ·rintro (h | ⟨b, hb, g1⟩)
    ·exact .inl h
    ·rcases List.mem_cons.1 hb with rfl | hb
     ·exact absurd (by rw [Bool.and_eq_true, beq_iff_eq]; exact ⟨g1.1, g1.2.1⟩) hc
     ·exact .inr ⟨b, hb, g1⟩
theorem stepL_len {arcs : List A} {n : Nat} (ht : ∀ a ∈ arcs, to a < n) (x : Int) (h : List Bool) : (stepL fr to lb x arcs n h).length = n := by
 have := (stepL_gen (fr := fr) (lb := lb) x h arcs (List.replicate n false) (fun a ha => by rw [List.length_replicate]; exact ht a ha)).1
 rw [List.length_replicate] at this
 exact this
theorem stepL_iff {arcs : List A} {n : Nat} (ht : ∀ a ∈ arcs, to a < n) (x : Int) (h : List Bool) (i : Nat) : on (stepL fr to lb x arcs n h) i = true ↔ ∃ a ∈ arcs, lb a = x ∧ on h (fr a) = true ∧ to a = i := by
 have := (stepL_gen (fr := fr) (lb := lb) x h arcs (List.replicate n false) (fun a ha => by rw [List.length_replicate]; exact ht a ha)).2 i
 unfold stepL
 rw [this, on_replicate]
 simp
theorem Pth.app {arcs : List A} {s t u : Nat} {v w : List Int} (h : Pth fr to lb arcs s v t) (g : Pth fr to lb arcs t w u) : Pth fr to lb arcs s (v ++ w) u := by
 induction h with
 | nil s => exact g
 | eps ha he _ ih => exact .eps ha he (ih g)
 | lab ha he hx _ ih => exact .lab ha he hx (ih g)
theorem RE.pth {arcs : List A} {h : List Bool} {i : Nat} (hr : RE fr to (fun a => lb a == 0) arcs h i) : ∃ s, on h s = true ∧ Pth fr to lb arcs s [] i := by
 induction hr with
 | base hi => exact ⟨_, hi, .nil _⟩
 | step ha he _ ih =>
  obtain ⟨s, h1, h2⟩ := ih
  have := h2.app (.eps ha (by simpa using he) (.nil _))
  exact ⟨s, h1, this⟩
def Clo (arcs : List A) (h : List Bool) : Prop := ∀ a ∈ arcs, lb a = 0 → on h (fr a) = true → on h (to a) = true
theorem itE_clo {arcs : List A} {h : List Bool} (ht : ∀ a ∈ arcs, to a < h.length) {k : Nat} (hk : h.length ≤ k) : Clo (fr := fr) (to := to) (lb := lb) arcs (itE fr to (fun a => lb a == 0) arcs k h) := fun a ha he hf => by
 rw [itE_iff ht hk] at hf ⊢
 exact .step ha (by simpa using he) hf
theorem runA_iff {arcs : List A} {n : Nat} (ht : ∀ a ∈ arcs, to a < n) : ∀ (w : List Int) (h : List Bool), h.length = n → Clo (fr := fr) (to := to) (lb := lb) arcs h → (∀ x ∈ w, x ≠ 0) → ∀ t, on (runA fr to lb arcs n w h) t = true ↔ ∃ s, on h s = true ∧ Pth fr to lb arcs s w t
 | [], h, hl, hc, _, t => by
  constructor
  ·intro ht; exact ⟨t, ht, .nil t⟩
  ·rintro ⟨s, hs, hp⟩
   show on h t = true
   generalize hw : ([] : List Int) = w at hp
   induction hp with
   | nil s => exact hs
   | eps ha he _ ih => exact ih (hc _ ha he hs) hw
   | lab => cases hw
 | x :: w, h, hl, hc, hx, t => by
  have hl1 := stepL_len (fr := fr) (lb := lb) ht x h
  have ht1 : ∀ a ∈ arcs, to a < (stepL fr to lb x arcs n h).length := fun a ha => by rw [hl1]; exact ht a ha
  show on (runA fr to lb arcs n w (itE fr to (fun a => lb a == 0) arcs n (stepL fr to lb x arcs n h))) t = true ↔ _
  rw [runA_iff ht w _ (by rw [itE_len, hl1]) (itE_clo ht1 (by omega)) (fun y hy => hx y (List.mem_cons_of_mem _ hy)) t]
  have hx0 := hx x List.mem_cons_self
  constructor
  ·rintro ⟨s, hs, hp⟩
   rw [itE_iff ht1 (by omega)] at hs
   obtain ⟨s1, h1, h2⟩ := hs.pth
   obtain ⟨a, ha, hb, hf, rfl⟩ := (stepL_iff ht x h s1).1 h1
   have := h2.app hp
   exact ⟨fr a, hf, .lab ha hb hx0 this⟩
  ·rintro ⟨s, hs, hp⟩
   generalize hw : x :: w = v at hp
   induction hp with
   | nil s => cases hw
   | eps ha he _ ih => exact ih (hc _ ha he hs) hw
   | lab ha hb hy hq _ =>
    cases hw
    refine ⟨_, ?_, hq⟩
    rw [itE_iff ht1 (by omega)]
    exact .base ((stepL_iff ht _ h _).2 ⟨_, ha, hb, hs, rfl⟩)
end
theorem fold_keep {α : Type} {N : Nat} {f : List Bool → α → List Bool} {P : α → Prop} (hf : ∀ t a, P a → t.length = N → (f t a).length = N ∧ ∀ x, on t x = true → on (f t a) x = true) :
  ∀ (l : List α) (t : List Bool), (∀ a ∈ l, P a) → t.length = N → (l.foldl f t).length = N ∧ ∀ x, on t x = true → on (l.foldl f t) x = true
 | [], t, _, h => ⟨h, fun _ h => h⟩
 | a :: r, t, hp, h => by
  obtain ⟨h1, h2⟩ := hf t a (hp a List.mem_cons_self) h
  obtain ⟨h3, h4⟩ := fold_keep hf r (f t a) (fun b hb => hp b (List.mem_cons_of_mem _ hb)) h1
  exact ⟨h3, fun x hx => h4 x (h2 x hx)⟩
theorem fold_hit {α : Type} {N : Nat} {f : List Bool → α → List Bool} {P : α → Prop} (hf : ∀ t a, P a → t.length = N → (f t a).length = N ∧ ∀ x, on t x = true → on (f t a) x = true) :
  ∀ (l : List α) (t : List Bool), (∀ a ∈ l, P a) → t.length = N → ∀ a ∈ l, ∃ t', t'.length = N ∧ (∀ x, on t x = true → on t' x = true) ∧ ∀ x, on (f t' a) x = true → on (l.foldl f t) x = true
 | [], _, _, _, a, ha => by cases ha
 | b :: r, t, hp, h, a, ha => by
  obtain ⟨h1, h2⟩ := hf t b (hp b List.mem_cons_self) h
  rcases List.mem_cons.1 ha with rfl | ha
  ·obtain ⟨_, h4⟩ := fold_keep hf r (f t a) (fun b hb => hp b (List.mem_cons_of_mem _ hb)) h1
   exact ⟨t, h, fun x hx => hx, h4⟩
  ·obtain ⟨t', g1, g2, g3⟩ := fold_hit hf r (f t b) (fun c hc => hp c (List.mem_cons_of_mem _ hc)) h1 a ha
   exact ⟨t', g1, fun x hx => g2 x (h2 x hx), g3⟩
def wStep (n k i : Nat) (t : List Bool) (j : Nat) : List Bool := if on t (i * n + k) && on t (k * n + j) then t.set (i * n + j) true else t
def wI (n k : Nat) (t : List Bool) (i : Nat) : List Bool := (List.range n).foldl (wStep n k i) t
def wK (n : Nat) (t : List Bool) (k : Nat) : List Bool := (List.range n).foldl (wI n k) t
theorem ix_lt {n i j : Nat} (hi : i < n) (hj : j < n) : i * n + j < n * n := by
 have : (i + 1) * n ≤ n * n := Nat.mul_le_mul_right n hi
 rw [Nat.succ_mul] at this
 omega
theorem wStep_ok {n k i : Nat} (hi : i < n) (t : List Bool) (j : Nat) (hj : j < n) (h : t.length = n * n) : (wStep n k i t j).length = n * n ∧ ∀ x, on t x = true → on (wStep n k i t j) x = true := by
 unfold wStep
 split
 ·refine ⟨by rw [List.length_set, h], fun x hx => ?_⟩
  rw [on_set (by rw [h]; exact ix_lt hi hj), hx, Bool.or_true]
 ·exact ⟨h, fun x hx => hx⟩
theorem wI_ok {n k : Nat} (t : List Bool) (i : Nat) (hi : i < n) (h : t.length = n * n) : (wI n k t i).length = n * n ∧ ∀ x, on t x = true → on (wI n k t i) x = true :=
 fold_keep (P := fun j => j < n) (fun t j hj h => wStep_ok hi t j hj h) (List.range n) t (fun j hj => List.mem_range.1 hj) h
theorem wK_ok {n : Nat} (t : List Bool) (k : Nat) (h : t.length = n * n) : (wK n t k).length = n * n ∧ ∀ x, on t x = true → on (wK n t k) x = true :=
 fold_keep (P := fun i => i < n) (fun t i hi h => wI_ok t i hi h) (List.range n) t (fun j hj => List.mem_range.1 hj) h
theorem wK_hit {n : Nat} {t : List Bool} {k i j : Nat} (hi : i < n) (hj : j < n) (h : t.length = n * n) (h1 : on t (i * n + k) = true) (h2 : on t (k * n + j) = true) : on (wK n t k) (i * n + j) = true := by
 obtain ⟨t1, g1, g2, g3⟩ := fold_hit (N := n * n) (f := wI n k) (P := fun i => i < n) (fun t i hi h => wI_ok t i hi h) (List.range n) t (fun j hj => List.mem_range.1 hj) h i (List.mem_range.2 hi)
 refine g3 _ ?_
 obtain ⟨t2, k1, k2, k3⟩ := fold_hit (N := n * n) (f := wStep n k i) (P := fun j => j < n) (fun t j hj h => wStep_ok hi t j hj h) (List.range n) t1 (fun j hj => List.mem_range.1 hj) g1 j (List.mem_range.2 hj)
 refine k3 _ ?_
 unfold wStep
 rw [if_pos (by rw [k2 _ (g2 _ h1), k2 _ (g2 _ h2)]; rfl), on_set (by rw [k1]; exact ix_lt hi hj)]
 simp
inductive PB (E : Nat → Nat → Prop) (k : Nat) : Nat → Nat → Prop
 | edge {i j : Nat} : E i j → PB E k i j
 | cat {i c j : Nat} : c < k → PB E k i c → PB E k c j → PB E k i j
theorem PB_split {E : Nat → Nat → Prop} {k i j : Nat} (h : PB E (k + 1) i j) : PB E k i j ∨ (PB E k i k ∧ PB E k k j) := by
 induction h with
 | edge h => exact .inl (.edge h)
 | @cat i c j hc _ _ h1 h2 =>
  rcases Nat.lt_or_ge c k with g | g
  ·rcases h1 with h1 | ⟨h1, h3⟩
   ·rcases h2 with h2 | ⟨h2, h4⟩
    ·exact .inl (.cat g h1 h2)
    ·exact .inr ⟨.cat g h1 h2, h4⟩
   ·rcases h2 with h2 | ⟨h2, h4⟩
    ·exact .inr ⟨h1, .cat g h3 h2⟩
    ·exact .inr ⟨h1, h4⟩
  ·have : c = k := by omega
   subst this
   have a1 : PB E c i c := by
    rcases h1 with h1 | ⟨h1, _⟩
    ·exact h1
    ·exact h1
   have a2 : PB E c c j := by
    rcases h2 with h2 | ⟨_, h2⟩
    ·exact h2
    ·exact h2
   exact .inr ⟨a1, a2⟩
theorem wAll {E : Nat → Nat → Prop} {n : Nat} (hE : ∀ i j, E i j → i < n ∧ j < n) (t : List Bool) (ht : t.length = n * n) (h0 : ∀ i j, E i j → on t (i * n + j) = true) : ∀ k, k ≤ n →
  ((List.range k).foldl (wK n) t).length = n * n ∧ ∀ i j, PB E k i j → on ((List.range k).foldl (wK n) t) (i * n + j) = true
 | 0, _ => ⟨ht, fun i j h => by
   cases h with
   | edge h => exact h0 i j h
   | cat hc => exact absurd hc (Nat.not_lt_zero _)⟩
 | k + 1, hk => by
  obtain ⟨h1, h2⟩ := wAll hE t ht h0 k (by omega)
  rw [List.range_succ, List.foldl_append]
  show (wK n ((List.range k).foldl (wK n) t) k).length = n * n ∧ ∀ i j, PB E (k + 1) i j → on (wK n ((List.range k).foldl (wK n) t) k) (i * n + j) = true
  obtain ⟨g1, g2⟩ := wK_ok (n := n) ((List.range k).foldl (wK n) t) k h1
  refine ⟨g1, fun i j h => ?_⟩
  have ends : ∀ {k i j}, PB E k i j → i < n ∧ j < n := by
   intro k i j h
   induction h with
   | edge h => exact hE _ _ h
   | cat _ _ _ a b => exact ⟨a.1, b.2⟩
  obtain ⟨hi, hj⟩ := ends h
  rcases PB_split h with h | ⟨h3, h4⟩
  ·exact g2 _ (h2 i j h)
  ·exact wK_hit hi hj h1 (h2 i k h3) (h2 k j h4)
inductive PthR (Ar : Nat → Int → Nat → Prop) : Nat → List Int → Nat → Prop
 | nil (s : Nat) : PthR Ar s [] s
 | eps {s u t : Nat} {w : List Int} : Ar s 0 u → PthR Ar u w t → PthR Ar s w t
 | lab {s u t : Nat} {x : Int} {w : List Int} : Ar s x u → x ≠ 0 → PthR Ar u w t → PthR Ar s (x :: w) t
theorem Pth.rel {A : Type} {fr to : A → Nat} {lb : A → Int} {arcs : List A} {Ar : Nat → Int → Nat → Prop} (hA : ∀ s x t, Ar s x t ↔ ∃ a ∈ arcs, fr a = s ∧ lb a = x ∧ to a = t) (s : Nat) (w : List Int) (t : Nat) : Pth fr to lb arcs s w t ↔ PthR Ar s w t := by
 constructor
 ·intro h
  induction h with
  | nil s => exact .nil s
  | eps ha he _ ih => exact .eps ((hA _ _ _).2 ⟨_, ha, rfl, he, rfl⟩) ih
  | lab ha he hx _ ih => exact .lab ((hA _ _ _).2 ⟨_, ha, rfl, he, rfl⟩) hx ih
 ·intro h
  induction h with
  | nil s => exact .nil s
  | eps h _ ih =>
   obtain ⟨a, ha, rfl, hx, rfl⟩ := (hA _ _ _).1 h
   exact .eps ha hx ih
  | lab h hx _ ih =>
   obtain ⟨a, ha, rfl, he, rfl⟩ := (hA _ _ _).1 h
   exact .lab ha he hx ih
theorem PthR.app {Ar : Nat → Int → Nat → Prop} {s t u : Nat} {v w : List Int} (h : PthR Ar s v t) (g : PthR Ar t w u) : PthR Ar s (v ++ w) u := by
 induction h with
 | nil s => exact g
 | eps ha _ ih => exact .eps ha (ih g)
 | lab ha hx _ ih => exact .lab ha hx (ih g)
structure Blk where
 i : Nat
 S : Nat
 t : Nat
 n : Nat
 o : Nat → Int
def one (x : Int) : List Int := if x = 0 then [] else [x]
def outsF (b : Blk) (k : Nat) : List Int := (List.range (b.n - k)).flatMap fun j => one (b.o (k + j))
def outs (b : Blk) : List Int := outsF b 0
theorem outsF_step {b : Blk} {k : Nat} (hk : k < b.n) : outsF b k = one (b.o k) ++ outsF b (k + 1) := by
 unfold outsF
 rw [show b.n - k = (b.n - (k + 1)) + 1 by omega, List.range_succ_eq_map, List.flatMap_cons, List.flatMap_map]
 congr 1
 congr 1
 funext j
 show one (b.o (k + (j + 1))) = one (b.o (k + 1 + j))
 rw [show k + (j + 1) = k + 1 + j by omega]
theorem outsF_end {b : Blk} : outsF b b.n = [] := by
 unfold outsF
 rw [Nat.sub_self]; rfl
theorem one_map : ∀ (l : List Int) (n : Nat), l.length ≤ n → (∀ x ∈ l, x ≠ 0) → ((List.range n).flatMap fun k => one (l[k]?.getD 0)) = l
 | [], n, _, _ => by
  rw [List.flatMap_eq_nil_iff]
  intro k _
  simp [one]
 | x :: r, 0, h, _ => by simp at h
 | x :: r, n + 1, h, hx => by
  rw [List.range_succ_eq_map, List.flatMap_cons, List.flatMap_map]
  have ih := one_map r n (by simpa using h) (fun y hy => hx y (List.mem_cons_of_mem _ hy))
  have e : (List.range n).flatMap (fun k => one ((x :: r)[Nat.succ k]?.getD 0)) = r := by
   refine Eq.trans ?_ ih
   congr 1
  rw [e]
  have hx0 := hx x List.mem_cons_self
  show one x ++ r = x :: r
  unfold one
  rw [if_neg hx0]
  rfl
structure Bks (N : Nat) (bs : List Blk) (Ar : Nat → Int → Nat → Prop) : Prop where
 ar : ∀ s x t, Ar s x t ↔ ∃ b ∈ bs, ∃ k, k < b.n ∧ s = (if k = 0 then b.i else b.S + k - 1) ∧ x = b.o k ∧ t = (if k + 1 < b.n then b.S + k else b.t)
 i : ∀ b ∈ bs, b.i < N
 S : ∀ b ∈ bs, N < b.S
 t : ∀ b ∈ bs, b.t ≤ N
 n : ∀ b ∈ bs, 1 ≤ b.n
 dis : ∀ b ∈ bs, ∀ c ∈ bs, ∀ k j, k + 1 < b.n → j + 1 < c.n → b.S + k = c.S + j → b = c ∧ k = j
inductive Chn (N : Nat) (bs : List Blk) : Nat → List Int → Nat → Prop
 | last {b : Blk} : b ∈ bs → b.t = N → Chn N bs b.i (outs b) 1
 | more {b : Blk} {w : List Int} {m : Nat} : b ∈ bs → b.t < N → Chn N bs b.t w m → Chn N bs b.i (outs b ++ w) (m + 1)
def Tail (N : Nat) (bs : List Blk) (t : Nat) (w : List Int) : Prop := (t = N ∧ w = []) ∨ (t < N ∧ ∃ m, Chn N bs t w m)
theorem Tail.chn {N : Nat} {bs : List Blk} {b : Blk} (hb : b ∈ bs) {w : List Int} (h : Tail N bs b.t w) : ∃ m, Chn N bs b.i (outs b ++ w) m := by
 rcases h with ⟨h, rfl⟩ | ⟨h, m, hm⟩
 ·exact ⟨1, by rw [List.append_nil]; exact .last hb h⟩
 ·exact ⟨m + 1, .more hb h hm⟩
def Rest (N : Nat) (bs : List Blk) (s : Nat) (w : List Int) : Prop :=
 (s < N → ∃ m, Chn N bs s w m) ∧ (∀ b ∈ bs, ∀ k, 1 ≤ k → k < b.n → s = b.S + k - 1 → ∃ w2, w = outsF b k ++ w2 ∧ Tail N bs b.t w2) ∧ (s = N → w = [])
theorem Rest.tail {N : Nat} {bs : List Blk} {t : Nat} {w : List Int} (h : Rest N bs t w) (ht : t ≤ N) : Tail N bs t w := by
 rcases Nat.lt_or_ge t N with g | g
 ·exact .inr ⟨g, h.1 g⟩
 ·exact .inl ⟨by omega, h.2.2 (by omega)⟩
theorem rest_arc {N : Nat} {bs : List Blk} {Ar : Nat → Int → Nat → Prop} (hB : Bks N bs Ar) {s u : Nat} {x : Int} {w : List Int} (ha : Ar s x u) (h : Rest N bs u w) : Rest N bs s (one x ++ w) := by
 obtain ⟨b, hb, k, hk, hs, rfl, hu⟩ := (hB.ar s x u).1 ha
 have hi := hB.i b hb
 have hS := hB.S b hb
 have ht := hB.t b hb
 have next : ∃ w2, w = outsF b (k + 1) ++ w2 ∧ Tail N bs b.t w2 := by
  by_cases hk1 : k + 1 < b.n
  ·rw [if_pos hk1] at hu
   obtain ⟨w2, h1, h2⟩ := h.2.1 b hb (k + 1) (by omega) hk1 (by omega)
   exact ⟨w2, h1, h2⟩
  ·rw [if_neg hk1] at hu
   have e : k + 1 = b.n := by omega
   rw [e, outsF_end]
   subst hu
   exact ⟨w, rfl, h.tail ht⟩
 obtain ⟨w2, rfl, h2⟩ := next
 rw [← List.append_assoc, ← outsF_step hk]
 refine ⟨fun hsN => ?_, fun c hc j hj1 hj hsj => ?_, fun hsN => ?_⟩
 ·by_cases k0 : k = 0
  ·subst k0
   rw [if_pos rfl] at hs
   subst hs
   exact h2.chn hb
  ·rw [if_neg k0] at hs; omega
 ·by_cases k0 : k = 0
  ·subst k0
   rw [if_pos rfl] at hs
   have := hB.S c hc
   omega
  ·rw [if_neg k0] at hs
   obtain ⟨e1, e2⟩ := hB.dis b hb c hc (k - 1) (j - 1) (by omega) (by omega) (by have := hB.S c hc; omega)
   subst e1
   have : j = k := by omega
   subst this
   exact ⟨w2, rfl, h2⟩
 ·by_cases k0 : k = 0
  ·rw [if_pos k0] at hs; omega
  ·rw [if_neg k0] at hs; omega
theorem rest_of {N : Nat} {bs : List Blk} {Ar : Nat → Int → Nat → Prop} (hB : Bks N bs Ar) {s : Nat} {w : List Int} {e : Nat} (h : PthR Ar s w e) (he : e = N) : Rest N bs s w := by
 induction h with
 | nil s =>
  subst he
  exact ⟨fun h => absurd h (Nat.lt_irrefl _), fun b hb k h1 h2 h3 => by have := hB.S b hb; omega, fun _ => rfl⟩
 | eps ha _ ih => exact rest_arc hB ha (ih he)
 | @lab s u t x w ha hx _ ih =>
  have := rest_arc hB ha (ih he)
  unfold one at this
  rw [if_neg hx] at this
  exact this
theorem PthR.arc {Ar : Nat → Int → Nat → Prop} {s u : Nat} {x : Int} (h : Ar s x u) : PthR Ar s (one x) u := by
 unfold one
 by_cases e : x = 0
 ·rw [if_pos e]; rw [e] at h; exact .eps h (.nil u)
 ·rw [if_neg e]; exact .lab h e (.nil u)
theorem blk_path {N : Nat} {bs : List Blk} {Ar : Nat → Int → Nat → Prop} (hB : Bks N bs Ar) {b : Blk} (hb : b ∈ bs) : ∀ (d k : Nat), k + d + 1 = b.n → PthR Ar (if k = 0 then b.i else b.S + k - 1) (outsF b k) b.t
 | 0, k, hk => by
  have h : Ar (if k = 0 then b.i else b.S + k - 1) (b.o k) b.t := (hB.ar _ _ _).2 ⟨b, hb, k, by omega, rfl, rfl, by rw [if_neg (by omega)]⟩
  rw [outsF_step (by omega), show k + 1 = b.n by omega, outsF_end, List.append_nil]
  exact .arc h
 | d + 1, k, hk => by
  have h : Ar (if k = 0 then b.i else b.S + k - 1) (b.o k) (b.S + k) := (hB.ar _ _ _).2 ⟨b, hb, k, by omega, rfl, rfl, by rw [if_pos (by omega)]⟩
  have ih := blk_path hB hb d (k + 1) (by omega)
  rw [if_neg (by omega), show b.S + (k + 1) - 1 = b.S + k by omega] at ih
  rw [outsF_step (by omega)]
  exact (PthR.arc h).app ih
theorem chn_path {N : Nat} {bs : List Blk} {Ar : Nat → Int → Nat → Prop} (hB : Bks N bs Ar) {c : Nat} {w : List Int} {m : Nat} (h : Chn N bs c w m) : PthR Ar c w N := by
 induction h with
 | @last b hb ht =>
  have hn := hB.n b hb
  have := blk_path hB hb (b.n - 1) 0 (by omega)
  rw [if_pos rfl, ht] at this
  exact this
 | @more b w m hb ht _ ih =>
  have hn := hB.n b hb
  have := blk_path hB hb (b.n - 1) 0 (by omega)
  rw [if_pos rfl] at this
  exact this.app ih
theorem path_iff {N : Nat} {bs : List Blk} {Ar : Nat → Int → Nat → Prop} (hB : Bks N bs Ar) {c : Nat} (hc : c < N) (w : List Int) : PthR Ar c w N ↔ ∃ m, Chn N bs c w m :=
 ⟨fun h => (rest_of hB h rfl).1 hc, fun ⟨m, h⟩ => chn_path hB h⟩
def Edge (N : Nat) (bs : List Blk) (i j : Nat) : Prop := ∃ b ∈ bs, b.i = i ∧ b.t = j ∧ j < N
inductive Via (N : Nat) (bs : List Blk) : Nat → Nat → List Nat → Prop
 | last {b : Blk} : b ∈ bs → b.t = N → Via N bs b.i 1 [b.i]
 | more {b : Blk} {m : Nat} {l : List Nat} : b ∈ bs → b.t < N → Via N bs b.t m l → Via N bs b.i (m + 1) (b.i :: l)
theorem Chn.via {N : Nat} {bs : List Blk} {c : Nat} {w : List Int} {m : Nat} (h : Chn N bs c w m) : ∃ l, Via N bs c m l := by
 induction h with
 | last hb ht => exact ⟨_, .last hb ht⟩
 | more hb ht _ ih =>
  obtain ⟨l, hl⟩ := ih
  exact ⟨_, .more hb ht hl⟩
theorem Via.len {N : Nat} {bs : List Blk} {c m : Nat} {l : List Nat} (h : Via N bs c m l) : l.length = m := by
 induction h with
 | last => rfl
 | more _ _ _ ih => rw [List.length_cons, ih]
theorem Via.lt {N : Nat} {bs : List Blk} (hi : ∀ b ∈ bs, b.i < N) {c m : Nat} {l : List Nat} (h : Via N bs c m l) : ∀ x ∈ l, x < N := by
 induction h with
 | last hb _ => intro x hx; rw [List.mem_singleton] at hx; subst hx; exact hi _ hb
 | more hb _ _ ih =>
  intro x hx
  rcases List.mem_cons.1 hx with rfl | hx
  ·exact hi _ hb
  ·exact ih x hx
theorem Via.reach {N : Nat} {bs : List Blk} (hi : ∀ b ∈ bs, b.i < N) {c m : Nat} {l : List Nat} (h : Via N bs c m l) : ∀ x ∈ l, x = c ∨ PB (Edge N bs) N c x := by
 induction h with
 | last hb _ => intro x hx; rw [List.mem_singleton] at hx; exact .inl hx
 | @more b m l hb ht hv ih =>
  intro x hx
  rcases List.mem_cons.1 hx with rfl | hx
  ·exact .inl rfl
  ·have e : PB (Edge N bs) N b.i b.t := .edge ⟨b, hb, rfl, rfl, ht⟩
   rcases ih x hx with rfl | h
   ·exact .inr e
   ·exact .inr (.cat ht e h)
theorem Via.nodup {N : Nat} {bs : List Blk} (hi : ∀ b ∈ bs, b.i < N) (hno : ∀ i, ¬ PB (Edge N bs) N i i) {c m : Nat} {l : List Nat} (h : Via N bs c m l) : l.Nodup := by
 induction h with
 | last => simp
 | @more b m l hb ht hv ih =>
  rw [List.nodup_cons]
  refine ⟨fun hx => ?_, ih⟩
  have e : PB (Edge N bs) N b.i b.t := .edge ⟨b, hb, rfl, rfl, ht⟩
  rcases hv.reach hi b.i hx with h | h
  ·rw [← h] at e; exact hno _ e
  ·exact hno _ (.cat ht e h)
theorem nodup_le : ∀ (N : Nat) (l : List Nat), l.Nodup → (∀ x ∈ l, x < N) → l.length ≤ N
 | 0, [], _, _ => Nat.le_refl _
 | 0, x :: r, _, h => absurd (h x List.mem_cons_self) (Nat.not_lt_zero _)
 | N + 1, l, hd, h => by
  have h1 := nodup_le N (l.filter fun x => decide (x < N)) (hd.filter _) (fun x hx => by simpa using (List.mem_filter.1 hx).2)
  have h2 : (l.filter fun x => !decide (x < N)).length ≤ 1 := by
   have hd2 : (l.filter fun x => !decide (x < N)).Nodup := hd.filter _
   have hall : ∀ x ∈ (l.filter fun x => !decide (x < N)), x = N := fun x hx => by
    have h3 := (List.mem_filter.1 hx).2
    have h4 := h x (List.mem_filter.1 hx).1
    simp at h3
    omega
   match (l.filter fun x => !decide (x < N)), hd2, hall with
   | [], _, _ => exact Nat.zero_le _
   | [x], _, _ => exact Nat.le_refl _
   | x :: y :: r, hd2, hall =>
    have e1 := hall x List.mem_cons_self
    have e2 := hall y (List.mem_cons_of_mem _ List.mem_cons_self)
    rw [e1, e2] at hd2
    simp at hd2
  have h3 : l.length = (l.filter fun x => decide (x < N)).length + (l.filter fun x => !decide (x < N)).length := by
   clear h1 h2 hd h
   induction l with
   | nil => rfl
   | cons x r ih =>
    rw [List.filter_cons, List.filter_cons]
    by_cases hx : x < N
    ·simp [hx, ih]; omega
    ·simp [hx, ih]; omega
  omega
theorem chn_short {N : Nat} {bs : List Blk} (hi : ∀ b ∈ bs, b.i < N) (hno : ∀ i, ¬ PB (Edge N bs) N i i) {c : Nat} {w : List Int} {m : Nat} (h : Chn N bs c w m) : m ≤ N := by
 obtain ⟨l, hl⟩ := h.via
 rw [← hl.len]
 exact nodup_le N l (hl.nodup hi hno) (hl.lt hi)
end Go.Abs
