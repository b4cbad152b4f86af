import Derived.Test.YtbeegandhppniaaAbsV
import Derived.Test.YtbeegandhppniaaZHF
namespace Go.Abs
set_option linter.unusedVariables false
set_option linter.unusedSimpArgs false
set_option linter.unnecessarySimpa false
def on (h : List Bool) (i : Nat) : Bool := h.getD i false
theorem on_set {h : List Bool} {i j : Nat} (hi : i < h.length) : on (h.set i true) j = (decide (j = i) || on h j) := by
 unfold on
 rw [List.getD_eq_getElem?_getD, List.getElem?_set, List.getD_eq_getElem?_getD]
 by_cases e : i = j
 ·subst e; simp [hi]
 ·rw [if_neg e]
  have : decide (j = i) = false := decide_eq_false fun h => e h.symm
  rw [this, Bool.false_or]
theorem on_lt {h : List Bool} {i : Nat} (hi : on h i = true) : i < h.length := by
 rcases Nat.lt_or_ge i h.length with g | g
 ·exact g
 ·unfold on at hi
  rw [List.getD_eq_getElem?_getD, List.getElem?_eq_none g] at hi
  cases hi
theorem on_get {h : List Bool} {i : Nat} (hi : i < h.length) : h[i]? = some (on h i) := by
 unfold on
 rw [List.getD_eq_getElem?_getD, List.getElem?_eq_getElem hi]; rfl
section
variable {A : Type} (fr to : A → Nat) (e : A → Bool)
def stepS (h : List Bool) (a : A) : List Bool := if e a && on h (fr a) then h.set (to a) true else h
def passE (arcs : List A) (h : List Bool) : List Bool := arcs.foldl (stepS fr to e) h
def itE (arcs : List A) : Nat → List Bool → List Bool
 | 0, h => h
 | k + 1, h => itE arcs k (passE fr to e arcs h)
inductive RE (arcs : List A) (h : List Bool) : Nat → Prop
 | base {i : Nat} : on h i = true → RE arcs h i
 | step {a : A} : a ∈ arcs → e a = true → RE arcs h (fr a) → RE arcs h (to a)
variable {fr to e}
theorem stepS_len (h : List Bool) (a : A) : (stepS fr to e h a).length = h.length := by
 unfold stepS; split <;> simp
theorem stepS_keep {h : List Bool} {a : A} (ht : to a < h.length) {i : Nat} (hi : on h i = true) : on (stepS fr to e h a) i = true := by
 unfold stepS
 split
 ·rw [on_set ht, hi, Bool.or_true]
 ·exact hi
theorem stepS_new {h : List Bool} {a : A} (ht : to a < h.length) (he : e a = true) (hf : on h (fr a) = true) : on (stepS fr to e h a) (to a) = true := by
 unfold stepS
 rw [if_pos (by rw [he, hf]; rfl), on_set ht]
 simp
theorem stepS_of {h : List Bool} {a : A} (ht : to a < h.length) {i : Nat} (hi : on (stepS fr to e h a) i = true) : on h i = true ∨ (i = to a ∧ e a = true ∧ on h (fr a) = true) := by
 unfold stepS at hi
 split at hi
 ·rename_i hc
  rw [on_set ht, Bool.or_eq_true, decide_eq_true_eq] at hi
  rw [Bool.and_eq_true] at hc
  rcases hi with rfl | hi
  ·exact .inr ⟨rfl, hc.1, hc.2⟩
  ·exact .inl hi
 ·exact .inl hi
theorem set_true_same {h : List Bool} {i : Nat} (hi : on h i = true) : h.set i true = h := by
 refine List.ext_getElem? fun j => ?_
 rw [List.getElem?_set]
 by_cases e : i = j
 ·subst e
  rw [if_pos rfl, if_pos (on_lt hi), on_get (on_lt hi), hi]
 ·rw [if_neg e]
def falses (h : List Bool) : Nat := h.count false
theorem falses_set : ∀ {h : List Bool} {i : Nat}, i < h.length → on h i = false → falses (h.set i true) + 1 = falses h
 | [], i, hi, _ => absurd hi (Nat.not_lt_zero _)
 | x :: r, 0, _, h0 => by
  have : x = false := h0
  subst this
  show List.count false (true :: r) + 1 = List.count false (false :: r)
  simp
 | x :: r, i + 1, hi, h0 => by
  have ih := falses_set (h := r) (i := i) (by simpa using hi) (by simpa [on] using h0)
  unfold falses at ih ⊢
  rw [List.set_cons_succ, List.count_cons, List.count_cons]
  omega
theorem stepS_falses {h : List Bool} {a : A} (ht : to a < h.length) : stepS fr to e h a = h ∨ falses (stepS fr to e h a) < falses h := by
 unfold stepS
 split
 ·cases hc : on h (to a) with
  | true => exact .inl (set_true_same hc)
  | false =>
   right
   have := falses_set ht hc
   omega
 ·exact .inl rfl
theorem passE_len (arcs : List A) (h : List Bool) : (passE fr to e arcs h).length = h.length := by
 unfold passE
 induction arcs generalizing h with
 | nil => rfl
 | cons a r ih => rw [List.foldl_cons, ih, stepS_len]
theorem passE_keep : ∀ {arcs : List A} {h : List Bool}, (∀ a ∈ arcs, to a < h.length) → ∀ {i : Nat}, on h i = true → on (passE fr to e arcs h) i = true
 | [], h, _, i, hi => hi
 | a :: r, h, ht, i, hi => by
  show on (passE fr to e r (stepS fr to e h a)) i = true
  exact passE_keep (fun b hb => by rw [stepS_len]; exact ht b (List.mem_cons_of_mem _ hb)) (stepS_keep (ht a List.mem_cons_self) hi)
theorem passE_falses : ∀ {arcs : List A} {h : List Bool}, (∀ a ∈ arcs, to a < h.length) → passE fr to e arcs h = h ∨ falses (passE fr to e arcs h) < falses h
 | [], h, _ => .inl rfl
 | a :: r, h, ht => by
  have h1 := stepS_falses (fr := fr) (e := e) (ht a List.mem_cons_self)
  have h2 := passE_falses (arcs := r) (h := stepS fr to e h a) (fun b hb => by rw [stepS_len]; exact ht b (List.mem_cons_of_mem _ hb))
  show passE fr to e r (stepS fr to e h a) = h ∨ falses (passE fr to e r (stepS fr to e h a)) < falses h
  rcases h1 with h1 | h1
  ·rw [h1] at h2 ⊢; exact h2
  ·rcases h2 with h2 | h2
   ·rw [h2]; exact .inr h1
   ·exact .inr (by omega)
theorem passE_new : ∀ {arcs : List A} {h : List Bool}, (∀ a ∈ arcs, to a < h.length) → ∀ a ∈ arcs, e a = true → on h (fr a) = true → on (passE fr to e arcs h) (to a) = true
 | [], h, _, a, ha, _, _ => by cases ha
 | b :: r, h, ht, a, ha, he, hf => by
  have ht' : ∀ c ∈ r, to c < (stepS fr to e h b).length := fun c hc => by rw [stepS_len]; exact ht c (List.mem_cons_of_mem _ hc)
  show on (passE fr to e r (stepS fr to e h b)) (to a) = true
  rcases List.mem_cons.1 ha with rfl | ha
  ·exact passE_keep ht' (stepS_new (ht a List.mem_cons_self) he hf)
  ·exact passE_new ht' a ha he (stepS_keep (ht b List.mem_cons_self) hf)
theorem passE_of : ∀ {arcs : List A} {all : List A} {g h : List Bool}, (∀ a ∈ arcs, a ∈ all) → (∀ a ∈ arcs, to a < h.length) → (∀ i, on h i = true → RE fr to e all g i) → ∀ i, on (passE fr to e arcs h) i = true → RE fr to e all g i
 | [], all, g, h, _, _, hr, i, hi => hr i hi
 | a :: r, all, g, h, hall, ht, hr, i, hi => by
  refine passE_of (arcs := r) (h := stepS fr to e h a) (fun b hb => hall b (List.mem_cons_of_mem _ hb)) (fun b hb => by rw [stepS_len]; exact ht b (List.mem_cons_of_mem _ hb)) (fun j hj => ?_) i hi
  rcases stepS_of (ht a List.mem_cons_self) hj with hj | ⟨rfl, he, hf⟩
  ·exact hr j hj
  ·exact .step (hall a List.mem_cons_self) he (hr _ hf)
theorem itE_len (arcs : List A) : ∀ (k : Nat) (h : List Bool), (itE fr to e arcs k h).length = h.length
 | 0, h => rfl
 | k + 1, h => by
  show (itE fr to e arcs k (passE fr to e arcs h)).length = _
  rw [itE_len arcs k, passE_len]
theorem itE_same {arcs : List A} {h : List Bool} (hs : passE fr to e arcs h = h) : ∀ k, itE fr to e arcs k h = h
 | 0 => rfl
 | k + 1 => by
  show itE fr to e arcs k (passE fr to e arcs h) = h
  rw [hs]; exact itE_same hs k
theorem itE_fix {arcs : List A} : ∀ (k : Nat) (h : List Bool), (∀ a ∈ arcs, to a < h.length) → falses h ≤ k → passE fr to e arcs (itE fr to e arcs k h) = itE fr to e arcs k h
 | 0, h, ht, hk => by
  rcases passE_falses (fr := fr) (e := e) ht with g | g
  ·exact g
  ·omega
 | k + 1, h, ht, hk => by
  rcases passE_falses (fr := fr) (e := e) ht with g | g
  ·rw [itE_same g]; exact g
  ·exact itE_fix k (passE fr to e arcs h) (fun a ha => by rw [passE_len]; exact ht a ha) (by omega)
theorem itE_keep {arcs : List A} : ∀ (k : Nat) (h : List Bool), (∀ a ∈ arcs, to a < h.length) → ∀ {i : Nat}, on h i = true → on (itE fr to e arcs k h) i = true
 | 0, h, _, i, hi => hi
 | k + 1, h, ht, i, hi => itE_keep k (passE fr to e arcs h) (fun a ha => by rw [passE_len]; exact ht a ha) (passE_keep ht hi)
theorem itE_of {arcs : List A} : ∀ (k : Nat) (g h : List Bool), (∀ a ∈ arcs, to a < h.length) → (∀ i, on h i = true → RE fr to e arcs g i) → ∀ i, on (itE fr to e arcs k h) i = true → RE fr to e arcs g i
 | 0, g, h, _, hr, i, hi => hr i hi
 | k + 1, g, h, ht, hr, i, hi => itE_of k g (passE fr to e arcs h) (fun a ha => by rw [passE_len]; exact ht a ha) (passE_of (fun _ h => h) ht hr) i hi
theorem falses_le (h : List Bool) : falses h ≤ h.length := List.count_le_length
theorem itE_iff {arcs : List A} {h : List Bool} (ht : ∀ a ∈ arcs, to a < h.length) {k : Nat} (hk : h.length ≤ k) (i : Nat) : on (itE fr to e arcs k h) i = true ↔ RE fr to e arcs h i := by
 constructor
 ·exact itE_of k h h ht (fun i hi => .base hi) i
 ·intro hr
  have hf := itE_fix (fr := fr) (e := e) k h ht (Nat.le_trans (falses_le h) hk)
  induction hr with
  | base hi => exact itE_keep k h ht hi
  | step ha he _ ih =>
   have := passE_new (h := itE fr to e arcs k h) (fun b hb => by rw [itE_len]; exact ht b hb) _ ha he ih
   rw [hf] at this
   exact this
end
section
variable {A : Type} (fr to : A → Nat) (lb : A → Int)
inductive Pth (arcs : List A) : Nat → List Int → Nat → Prop
 | nil (s : Nat) : Pth arcs s [] s
 | eps {a : A} {w : List Int} {t : Nat} : a ∈ arcs → lb a = 0 → Pth arcs (to a) w t → Pth arcs (fr a) w t
 | lab {a : A} {x : Int} {w : List Int} {t : Nat} : a ∈ arcs → lb a = x → x ≠ 0 → Pth arcs (to a) w t → Pth arcs (fr a) (x :: w) t
def stepL (x : Int) (arcs : List A) (n : Nat) (h : List Bool) : List Bool := arcs.foldl (fun g a => if lb a == x && on h (fr a) then g.set (to a) true else g) (List.replicate n false)
def runA (arcs : List A) (n : Nat) : List Int → List Bool → List Bool
 | [], h => h
 | x :: w, h => runA arcs n w (itE fr to (fun a => lb a == 0) arcs n (stepL fr to lb x arcs n h))
variable {fr to lb}
theorem on_replicate (n i : Nat) : on (List.replicate n false) i = false := by
 unfold on
 rw [List.getD_eq_getElem?_getD, List.getElem?_replicate]
 split <;> rfl
theorem stepL_gen (x : Int) (h : List Bool) : ∀ (arcs : List A) (g : List Bool), (∀ a ∈ arcs, to a < g.length) →
  (arcs.foldl (fun g a => if lb a == x && on h (fr a) then g.set (to a) true else g) g).length = g.length ∧
  ∀ i, on (arcs.foldl (fun g a => if lb a == x && on h (fr a) then g.set (to a) true else g) g) i = true ↔ on g i = true ∨ ∃ a ∈ arcs, lb a = x ∧ on h (fr a) = true ∧ to a = i
 | [], g, _ => ⟨rfl, fun i => ⟨fun h => .inl h, fun h => by
   rcases h with h | ⟨a, ha, _⟩
   ·exact h
   ·cases ha⟩⟩
 | a :: r, g, ht => by
  rw [List.foldl_cons]
  by_cases hc : (lb a == x && on h (fr a)) = true
  ·rw [if_pos hc]
   rw [Bool.and_eq_true, beq_iff_eq] at hc
   obtain ⟨h1, h2⟩ := stepL_gen x h r (g.set (to a) true) (fun b hb => by rw [List.length_set]; exact ht b (List.mem_cons_of_mem _ hb))
   refine ⟨by rw [h1, List.length_set], fun i => ?_⟩
   rw [h2, on_set (ht a List.mem_cons_self), Bool.or_eq_true, decide_eq_true_eq]
   constructor
   ·rintro ((rfl | h) | ⟨b, hb, g1⟩)
    ·exact .inr ⟨a, List.mem_cons_self, hc.1, hc.2, rfl⟩
    ·exact .inl h
    ·exact .inr ⟨b, List.mem_cons_of_mem _ hb, g1⟩
   ·rintro (h | ⟨b, hb, g1⟩)
    ·exact .inl (.inr h)
    ·rcases List.mem_cons.1 hb with rfl | hb
     ·exact .inl (.inl g1.2.2.symm)
     ·exact .inr ⟨b, hb, g1⟩
  ·rw [if_neg hc]
   obtain ⟨h1, h2⟩ := stepL_gen x h r g (fun b hb => ht b (List.mem_cons_of_mem _ hb))
   refine ⟨h1, fun i => ?_⟩
   rw [h2]
   constructor
   ·rintro (h | ⟨b, hb, g1⟩)
    ·exact .inl h
    ·exact .inr ⟨b, List.mem_cons_of_mem _ hb, g1⟩
   ·rintro (h | ⟨b, hb, g1⟩)
    ·exact .inl h
    ·rcases List.mem_cons.1 hb with rfl | hb
     ·exact absurd (by rw [Bool.and_eq_true, beq_iff_eq]; exact ⟨g1.1, g1.2.1⟩) hc
     ·exact .inr ⟨b, hb, g1⟩
theorem stepL_len {arcs : List A} {n : Nat} (ht : ∀ a ∈ arcs, to a < n) (x : Int) (h : List Bool) : (stepL fr to lb x arcs n h).length = n := by
 have := (stepL_gen (fr := fr) (lb := lb) x h arcs (List.replicate n false) (fun a ha => by rw [List.length_replicate]; exact ht a ha)).1
 rw [List.length_replicate] at this
 exact this
theorem stepL_iff {arcs : List A} {n : Nat} (ht : ∀ a ∈ arcs, to a < n) (x : Int) (h : List Bool) (i : Nat) : on (stepL fr to lb x arcs n h) i = true ↔ ∃ a ∈ arcs, lb a = x ∧ on h (fr a) = true ∧ to a = i := by
 have := (stepL_gen (fr := fr) (lb := lb) x h arcs (List.replicate n false) (fun a ha => by rw [List.length_replicate]; exact ht a ha)).2 i
 unfold stepL
 rw [this, on_replicate]
 simp
theorem Pth.app {arcs : List A} {s t u : Nat} {v w : List Int} (h : Pth fr to lb arcs s v t) (g : Pth fr to lb arcs t w u) : Pth fr to lb arcs s (v ++ w) u := by
 induction h with
 | nil s => exact g
 | eps ha he _ ih => exact .eps ha he (ih g)
 | lab ha he hx _ ih => exact .lab ha he hx (ih g)
theorem RE.pth {arcs : List A} {h : List Bool} {i : Nat} (hr : RE fr to (fun a => lb a == 0) arcs h i) : ∃ s, on h s = true ∧ Pth fr to lb arcs s [] i := by
 induction hr with
 | base hi => exact ⟨_, hi, .nil _⟩
 | step ha he _ ih =>
  obtain ⟨s, h1, h2⟩ := ih
  have := h2.app (.eps ha (by simpa using he) (.nil _))
  exact ⟨s, h1, this⟩
def Clo (arcs : List A) (h : List Bool) : Prop := ∀ a ∈ arcs, lb a = 0 → on h (fr a) = true → on h (to a) = true
theorem itE_clo {arcs : List A} {h : List Bool} (ht : ∀ a ∈ arcs, to a < h.length) {k : Nat} (hk : h.length ≤ k) : Clo (fr := fr) (to := to) (lb := lb) arcs (itE fr to (fun a => lb a == 0) arcs k h) := fun a ha he hf => by
 rw [itE_iff ht hk] at hf ⊢
 exact .step ha (by simpa using he) hf
theorem runA_iff {arcs : List A} {n : Nat} (ht : ∀ a ∈ arcs, to a < n) : ∀ (w : List Int) (h : List Bool), h.length = n → Clo (fr := fr) (to := to) (lb := lb) arcs h → (∀ x ∈ w, x ≠ 0) → ∀ t, on (runA fr to lb arcs n w h) t = true ↔ ∃ s, on h s = true ∧ Pth fr to lb arcs s w t
 | [], h, hl, hc, _, t => by
  constructor
  ·intro ht; exact ⟨t, ht, .nil t⟩
  ·rintro ⟨s, hs, hp⟩
   show on h t = true
   generalize hw : ([] : List Int) = w at hp
   induction hp with
   | nil s => exact hs
   | eps ha he _ ih => exact ih (hc _ ha he hs) hw
   | lab => cases hw
 | x :: w, h, hl, hc, hx, t => by
  have hl1 := stepL_len (fr := fr) (lb := lb) ht x h
  have ht1 : ∀ a ∈ arcs, to a < (stepL fr to lb x arcs n h).length := fun a ha => by rw [hl1]; exact ht a ha
  show on (runA fr to lb arcs n w (itE fr to (fun a => lb a == 0) arcs n (stepL fr to lb x arcs n h))) t = true ↔ _
  rw [runA_iff ht w _ (by rw [itE_len, hl1]) (itE_clo ht1 (by omega)) (fun y hy => hx y (List.mem_cons_of_mem _ hy)) t]
  have hx0 := hx x List.mem_cons_self
  constructor
  ·rintro ⟨s, hs, hp⟩
   rw [itE_iff ht1 (by omega)] at hs
   obtain ⟨s1, h1, h2⟩ := hs.pth
   obtain ⟨a, ha, hb, hf, rfl⟩ := (stepL_iff ht x h s1).1 h1
   have := h2.app hp
   exact ⟨fr a, hf, .lab ha hb hx0 this⟩
  ·rintro ⟨s, hs, hp⟩
   generalize hw : x :: w = v at hp
   induction hp with
   | nil s => cases hw
   | eps ha he _ ih => exact ih (hc _ ha he hs) hw
   | lab ha hb hy hq _ =>
    cases hw
    refine ⟨_, ?_, hq⟩
    rw [itE_iff ht1 (by omega)]
    exact .base ((stepL_iff ht _ h _).2 ⟨_, ha, hb, hs, rfl⟩)
end
end Go.Abs
namespace Go.Abs.Rd
open Go.Sort Go.Proofs
set_option linter.unusedVariables false
set_option maxRecDepth 100000
set_option maxHeartbeats 2000000
abbrev bO (r : List Bool) : AObj := .row 1 (r.map vB)
theorem mk79 (h : List AObj) {x : Int} {N : Nat} (hx : x = (N : Int)) (hN : N ≤ 100000000) : makeSliceD T 56 h (dI x) (dI x) = some (sD h.length N, h ++ [bO (List.replicate N false)]) := by
 subst hx
 have hn : natOf (dI (N : Int)) = some N := by simp [natOf]
 have h1 : T 56 = some ti56 := rfl
 have h2 : T 4 = some ti4 := rfl
 unfold makeSliceD
 simp only [h1, hn, show ti56.kind = .slice 4 from rfl, h2]
 rw [if_pos ⟨Nat.le_refl _, by show N * 1 ≤ _; omega, by unfold maxLen; omega, by decide, rfl, rfl⟩]
 show some (_, h ++ [AObj.row 1 (List.replicate N (vB false))]) = _
 rw [bO, List.map_replicate]
theorem ixB {h : List AObj} {r N i : Nat} {b : List Bool} {x : Int} (hq : h[r]? = some (bO b)) (hx : x = (i : Int)) (hi : i < N) : (indexAddrH T h 56 (D.unt (sD r N)) (dI x)).map (·, h) = some (.eptr r i 0, h) := by
 subst hx
 have hn : natOf (dI (i : Int)) = some i := by simp [natOf]
 have h1 : T 56 = some ti56 := rfl
 simp only [D.unt, indexAddrH, h1, show ti56.kind = .slice 4 from rfl, hn, if_pos hi, show sizeT T 4 = some 1 from rfl, hq, if_true, Option.map_some, Nat.zero_add]
theorem ldB {h : List AObj} {r i : Nat} {b : List Bool} {x : Bool} (hq : h[r]? = some (bO b)) (hx : b[i]? = some x) : (loadD ti4 h (.eptr r i 0)).map (·, h) = some (dB x, h) := by
 have hx' : (b.map vB)[i]? = some (vB x) := by rw [List.getElem?_map, hx]; rfl
 simp only [loadD, hq, hx']
 rfl
theorem stB {h : List AObj} {r i : Nat} {b : List Bool} {x : Bool} (hq : h[r]? = some (bO b)) (hi : i < b.length) : (storeD ti4 h (.eptr r i 0) (dB x)).map (U, ·) = some (U, h.set r (bO (b.set i x))) := by
 have hx' : (b.map vB)[i]? = some (vB b[i]) := by rw [List.getElem?_map, List.getElem?_eq_getElem hi]; rfl
 have h1 : ((D.v (vB x)).solid && (D.v (vB x)).cells.length == ti4.size) = true := rfl
 have h2 : storeV (vB b[i]) (vB x) 0 = some (vB x) := rfl
 have h3 : ((vB x).cells.length == 1 && (vB x).solid) = true := rfl
 simp only [storeD, h1, if_true, hq, hx', h2, h3, Option.map_some, bO, List.map_set]
theorem bsub {x b : Bool} (e : x = b) (h : List AObj) : some (dB x, h) = some (dB b, h) := by rw [e]
def PreB (H G : List AObj) (q : Nat) : Prop := H.length ≤ G.length ∧ ∀ (r : Nat), r < H.length → r ≠ q → G[r]? = H[r]?
theorem PreB.refl (H : List AObj) (q : Nat) : PreB H H q := ⟨Nat.le_refl _, fun _ _ _ => rfl⟩
theorem PreB.trans {A B C : List AObj} {q : Nat} (h : PreB A B q) (g : PreB B C q) : PreB A C q := ⟨Nat.le_trans h.1 g.1, fun r hr hn => by rw [g.2 r (Nat.lt_of_lt_of_le hr h.1) hn, h.2 r hr hn]⟩
theorem PreB.app (H l : List AObj) (q : Nat) : PreB H (H ++ l) q := ⟨by simp, fun r hr _ => List.getElem?_append_left hr⟩
theorem PreB.set {H h : List AObj} {q r : Nat} (hp : PreB H h q) (hr : H.length ≤ r ∨ r = q) (o : AObj) : PreB H (h.set r o) q := ⟨by rw [List.length_set]; exact hp.1, fun i hi hn => by rw [List.getElem?_set_ne (by rcases hr with h | h <;> omega)]; exact hp.2 i hi hn⟩
def frS (a : S53) : Nat := a.fFrom.toNat
def toS (a : S53) : Nat := a.fTo.toNat
def siS (a : S53) : Bool := a.fIn == 0
structure OkM (m : S28) (N : Nat) : Prop where
 st : m.fStates = (N : Int)
 le : N ≤ 100000
 arc : ∀ a ∈ m.fArcs, a.fFrom = (frS a : Int) ∧ frS a < N ∧ a.fTo = (toS a : Int) ∧ toS a < N
 len : m.fArcs.length ≤ 1000000
abbrev mD (m : S28) : AObj := .cells [dI m.fStates, .v (vP e53 m.fArcs), .v (vP e58 m.fFinals)]
noncomputable def C20 : Code := bodyOf Proofs.Try.prog 20
noncomputable abbrev A32 : Code := cL (cR C20)
noncomputable abbrev O32 : Code := cL (cL (cR A32))
noncomputable abbrev I32 : Code := cL (cL (cR (cR O32)))
structure InvS (H : List AObj) (q : Nat) (m : S28) (row : List Bool) (G : List AObj) : Prop where
 mac : G[H.length]? = some (mD m)
 row : G[q]? = some (bO row)
 len : H.length + 1 ≤ G.length
 pre : PreB H G q
theorem InvS.app {H : List AObj} {q : Nat} {m : S28} {row : List Bool} {G : List AObj} (h : InvS H q m row G) (l : List AObj) : InvS H q m row (G ++ l) :=
 ⟨by rw [List.getElem?_append_left (lt_of_getElem? h.mac)]; exact h.mac, by rw [List.getElem?_append_left (lt_of_getElem? h.row)]; exact h.row, by rw [List.length_append]; have := h.len; omega, h.pre.trans (PreB.app _ _ _)⟩
theorem InvS.put {H : List AObj} {q : Nat} {m : S28} {row : List Bool} {G : List AObj} (h : InvS H q m row G) {r : Nat} (hr : H.length + 1 ≤ r) (hq : q < H.length) (o : AObj) : InvS H q m row (G.set r o) :=
 ⟨by rw [List.getElem?_set_ne (by omega)]; exact h.mac, by rw [List.getElem?_set_ne (by omega)]; exact h.row, by rw [List.length_set]; exact h.len, h.pre.set (.inl (by omega)) o⟩
theorem InvS.upd {H : List AObj} {q : Nat} {m : S28} {row : List Bool} {G : List AObj} (h : InvS H q m row G) (hq : q < H.length) (row' : List Bool) : InvS H q m row' (G.set q (bO row')) :=
 ⟨by rw [List.getElem?_set_ne (by omega)]; exact h.mac, List.getElem?_set_self (lt_of_getElem? h.row), by rw [List.length_set]; exact h.len, h.pre.set (.inr rfl) _⟩
abbrev S32i (m : S28) (q p N : Nat) (rd : Int) (i : Int) (G : List AObj) : St := Sm 35 [(1, sD q N), (2, .ptr p 0), (8, dI (N : Int)), (9, dI rd), (12, .v (vP e53 m.fArcs)), (13, dI (m.fArcs.length : Int)), (14, dI i)] G
abbrev S32a (m : S28) (q p N : Nat) (rd : Int) (i : Int) (r : Nat) (G : List AObj) : St := Sm 35 [(1, sD q N), (2, .ptr p 0), (6, .ptr r 0), (8, dI (N : Int)), (9, dI rd), (12, .v (vP e53 m.fArcs)), (13, dI (m.fArcs.length : Int)), (14, dI i)] G
def LS (H : List AObj) (q : Nat) (m : S28) (N : Nat) (rd : Int) (goal : List Bool) : Nat → St → Prop := fun k σ => ∃ (i : Nat) (row : List Bool) (G : List AObj), k = m.fArcs.length - i ∧ i ≤ m.fArcs.length ∧ row.length = N ∧ passE frS toS siS (m.fArcs.drop i) row = goal ∧ InvS H q m row G ∧ Abs.forget [1, 2, 8, 9, 12, 13, 14] σ = S32i m q H.length N rd (i : Int) G
theorem inner32 (n : Nat) (H : List AObj) (m : S28) (q N : Nat) (hm : OkM m N) (hqH : q < H.length) (row0 : List Bool) (h0 : row0.length = N) (rd : Int) {Q : Post}
  (hQ : ∀ G σ, InvS H q m (passE frS toS siS m.fArcs row0) G → Abs.forget [1, 2, 8, 9] σ = Sm 35 [(1, sD q N), (2, .ptr H.length 0), (8, dI (N : Int)), (9, dI rd)] G → Q (.exit 2) σ)
  (G : List AObj) (hG : InvS H q m row0 G) : Ht False Proofs.Try.prog (cL (cR I32)) (S32i m q H.length N rd 0 G) Q := by
 refine Ht.loop (LS H q m N rd (passE frS toS siS m.fArcs row0)) m.fArcs.length (by kernel_rfl) ⟨0, row0, G, rfl, Nat.zero_le _, h0, rfl, hG, by kernel_rfl⟩ ?_
 clear hG G
 rintro k σ ⟨i, row, G, rfl, hi, hrl, hps, hG, hσ⟩
 refine Ht.forget [1, 2, 8, 9, 12, 13, 14] (Ht.st hσ ?_)
 clear hσ
 refine Ht.seq (by kernel_rfl) ?_
 refine Ht.region (hxO n) (by kernel_rfl) ?_
 refine Ops.seg' 1 1 (by kernel_rfl) ?_
 refine Ops.done (by kernel_rfl) ?_
 refine seqH.n ?_
 refine Ht.seq (by kernel_rfl) ?_
 refine Ht.cond (decide ((i : Int) < (m.fArcs.length : Int))) (by kernel_rfl) (by kernel_rfl) (fun hc => ?_) (fun hc => ?_)
 case refine_2 =>
  have hc := of_decide_eq_false hc
  have hi2 : i = m.fArcs.length := by omega
  refine Ht.exit (id := 2) (by kernel_rfl) ?_
  show Q (.exit 2) _
  rw [List.drop_eq_nil_of_le (by omega)] at hps
  have hps : row = passE frS toS siS m.fArcs row0 := hps
  rw [hps] at hG
  exact hQ G _ hG (by kernel_rfl)
 have hc := of_decide_eq_true hc
 have hi : i < m.fArcs.length := by omega
 have hlen := hm.len
 have hw2 : w64 ((i : Int) + 1) = ((i + 1 : Nat) : Int) := by rw [w64_id ⟨by omega, by omega⟩]; omega
 obtain ⟨a, ha⟩ : ∃ a, m.fArcs[i]? = some a := ⟨_, List.getElem?_eq_getElem hi⟩
 have hix : idx m.fArcs (i : Int) = some a := by simp [idx, ha]
 obtain ⟨a1, a2, a3, a4⟩ := hm.arc a (List.mem_of_getElem? ha)
 have hdr : m.fArcs.drop i = a :: m.fArcs.drop (i + 1) := by
  rw [List.drop_eq_getElem_cons hi]
  rw [List.getElem?_eq_getElem hi] at ha
  rw [Option.some.inj ha]
 rw [hdr] at hps
 have hps : passE frS toS siS (m.fArcs.drop (i + 1)) (stepS frS toS siS row a) = passE frS toS siS m.fArcs row0 := hps
 refine Ht.skip (by kernel_rfl) ?_
 refine seqH.n ?_
 refine Ht.seq (by kernel_rfl) ?_
 refine Ht.block 3 (by kernel_rfl) ?_
 refine Ht.seq (by kernel_rfl) ?_
 have z1 : (G ++ [AObj.cells zA])[G.length]? = some (.cells zA) := by rw [List.getElem?_append_right (Nat.le_refl _), Nat.sub_self]; rfl
 refine Ht.region (hxO n) (by kernel_rfl) ?_
 refine Ops.one' 1 (fun h0 e0 => ix_r (T := T) h0 26 54 5 .plain e53 m.fArcs (i : Int) a hix (by kernel_rfl) (by kernel_rfl) (fun _ => rfl)) (by kernel_rfl) (by kernel_rfl) ?_
 refine Ops.seg' 2 3 (by kernel_rfl) ?_
 refine Ops.one' 4 (fun h0 e0 => stc (i := ti54) (h := h0) (r := G.length) (off := 0) (cs := zA) (cs' := aC a) (x := .v (e53 a)) (hq_of (g := G ++ [AObj.cells zA]) (e0.trans (by kernel_rfl)) z1) (by rfl) (by rfl)) (by kernel_rfl) (by kernel_rfl) ?_
 refine Ops.done (by kernel_rfl) ?_
 refine seqH.n ?_
 obtain ⟨G1, hG1⟩ : ∃ G1, (G ++ [AObj.cells zA]).set G.length (AObj.cells (aC a)) = G1 := ⟨_, rfl⟩
 refine Ht.forget [1, 2, 6, 8, 9, 12, 13, 14] (Ht.st (σ' := S32a m q H.length N rd (i : Int) G.length ((G ++ [AObj.cells zA]).set G.length (AObj.cells (aC a)))) (by kernel_rfl) ?_)
 rw [hG1]
 have b1 : G1[G.length]? = some (.cells (aC a)) := by rw [← hG1]; exact List.getElem?_set_self (by simp)
 have hI1 : InvS H q m row G1 := by rw [← hG1]; exact (hG.app _).put hG.len hqH _
 have hr1 := hI1.row
 have hgt : row[frS a]? = some (on row (frS a)) := on_get (by omega)
 have fin : ∀ (row' : List Bool) (G' : List AObj), stepS frS toS siS row a = row' → InvS H q m row' G' → lpH (LS H q m N rd (passE frS toS siS m.fArcs row0)) (m.fArcs.length - i) Q .normal (S32i m q H.length N rd (w64 ((i : Int) + 1)) G') := by
  intro row' G' hs hI
  refine ⟨m.fArcs.length - (i + 1), by omega, i + 1, row', G', rfl, hi, by rw [← hs, stepS_len]; exact hrl, by rw [← hs]; exact hps, hI, ?_⟩
  rw [hw2]
  kernel_rfl
 have skipped : stepS frS toS siS row a = row → ∀ σ, Abs.forget [1, 2, 8, 9, 12, 13, 14] σ = S32i m q H.length N rd (i : Int) G1 → Ht False Proofs.Try.prog (cR (cR (cR (cL (cL (cR I32)))))) σ (lpH (LS H q m N rd (passE frS toS siS m.fArcs row0)) (m.fArcs.length - i) Q) := by
  intro hs σ hσ
  refine Ht.forget [1, 2, 8, 9, 12, 13, 14] (Ht.st hσ ?_)
  refine Ht.region (hxO n) (by kernel_rfl) ?_
  refine Ops.seg' 2 2 (by kernel_rfl) ?_
  refine Ops.done (by kernel_rfl) ?_
  obtain ⟨f, h1, j', r', G', h2, h3, h4, h5, h6, h7⟩ := fin row G1 hs hI1
  exact ⟨f, h1, j', r', G', h2, h3, h4, h5, h6, Eq.trans (by kernel_rfl) h7⟩
 refine Ht.seq (by kernel_rfl) ?_
 by_cases he : a.fIn = 0
 case neg =>
  have he2 : (a.fIn == 0) = false := by simpa using he
  refine Ht.region (hxO n) (by kernel_rfl) ?_
  refine Ops.seg' 1 1 (by kernel_rfl) ?_
  refine Ops.one' 2 (fun h0 e0 => ldc (i := ti3) (h := h0) (r := G.length) (off := 2) (cs := aC a) (d := dI a.fIn) (hq_of (g := G1) (e0.trans (by kernel_rfl)) b1) (by rfl)) (by kernel_rfl) (by kernel_rfl) ?_
  refine Ops.one' 3 (fun h0 e0 => bsub he2 h0) (by kernel_rfl) (by kernel_rfl) ?_
  refine Ops.seg' 7 10 (by kernel_rfl) ?_
  refine Ops.done (by kernel_rfl) ?_
  refine seqH.n ?_
  refine Ht.cond false (by kernel_rfl) (by kernel_rfl) (fun hc => nomatch hc) (fun _ => ?_)
  refine Ht.skip (by kernel_rfl) ?_
  refine blkH.n ?_
  refine seqH.n ?_
  exact skipped (by unfold stepS siS; rw [he2]; rfl) _ (by kernel_rfl)
 have he2 : (a.fIn == 0) = true := by simpa using he
 refine Ht.region (hxO n) (by kernel_rfl) ?_
 refine Ops.seg' 1 1 (by kernel_rfl) ?_
 refine Ops.one' 2 (fun h0 e0 => ldc (i := ti3) (h := h0) (r := G.length) (off := 2) (cs := aC a) (d := dI a.fIn) (hq_of (g := G1) (e0.trans (by kernel_rfl)) b1) (by rfl)) (by kernel_rfl) (by kernel_rfl) ?_
 refine Ops.one' 3 (fun h0 e0 => bsub he2 h0) (by kernel_rfl) (by kernel_rfl) ?_
 refine Ops.seg' 3 6 (by kernel_rfl) ?_
 refine Ops.one' 7 (fun h0 e0 => ldc (i := ti3) (h := h0) (r := G.length) (off := 0) (cs := aC a) (d := dI a.fFrom) (hq_of (g := G1) (e0.trans (by kernel_rfl)) b1) (by rfl)) (by kernel_rfl) (by kernel_rfl) ?_
 refine Ops.one' 8 (fun h0 e0 => ixB (h := h0) (r := q) (N := N) (i := frS a) (hq_of (g := G1) (e0.trans (by kernel_rfl)) hr1) a1 a2) (by kernel_rfl) (by kernel_rfl) ?_
 refine Ops.one' 9 (fun h0 e0 => ldB (h := h0) (r := q) (i := frS a) (hq_of (g := G1) (e0.trans (by kernel_rfl)) hr1) hgt) (by kernel_rfl) (by kernel_rfl) ?_
 refine Ops.seg' 1 10 (by kernel_rfl) ?_
 refine Ops.done (by kernel_rfl) ?_
 refine seqH.n ?_
 refine Ht.cond (on row (frS a)) (by kernel_rfl) (by kernel_rfl) (fun hx => ?_) (fun hx => ?_)
 case refine_2 =>
  refine Ht.skip (by kernel_rfl) ?_
  refine blkH.n ?_
  refine seqH.n ?_
  exact skipped (by unfold stepS siS; rw [he2, hx]; rfl) _ (by kernel_rfl)
 refine Ht.region (hxO n) (by kernel_rfl) ?_
 refine Ops.seg' 2 2 (by kernel_rfl) ?_
 refine Ops.one' 3 (fun h0 e0 => ldc (i := ti3) (h := h0) (r := G.length) (off := 1) (cs := aC a) (d := dI a.fTo) (hq_of (g := G1) (e0.trans (by kernel_rfl)) b1) (by rfl)) (by kernel_rfl) (by kernel_rfl) ?_
 refine Ops.one' 4 (fun h0 e0 => ixB (h := h0) (r := q) (N := N) (i := toS a) (hq_of (g := G1) (e0.trans (by kernel_rfl)) hr1) a3 a4) (by kernel_rfl) (by kernel_rfl) ?_
 refine Ops.one' 5 (fun h0 e0 => stB (h := h0) (r := q) (i := toS a) (x := true) (hq_of (g := G1) (e0.trans (by kernel_rfl)) hr1) (by rw [hrl]; exact a4)) (by kernel_rfl) (by kernel_rfl) ?_
 refine Ops.done (by kernel_rfl) ?_
 refine blkH.n ?_
 refine seqH.n ?_
 refine Ht.forget [1, 2, 8, 9, 12, 13, 14] (Ht.st (σ' := S32i m q H.length N rd (i : Int) (G1.set q (bO (row.set (toS a) true)))) (by kernel_rfl) ?_)
 refine Ht.region (hxO n) (by kernel_rfl) ?_
 refine Ops.seg' 2 2 (by kernel_rfl) ?_
 refine Ops.done (by kernel_rfl) ?_
 obtain ⟨f, h1, j', r', G', h2, h3, h4, h5, h6, h7⟩ := fin (row.set (toS a) true) (G1.set q (bO (row.set (toS a) true))) (by unfold stepS siS; rw [he2, hx]; rfl) (hI1.upd hqH _)
 exact ⟨f, h1, j', r', G', h2, h3, h4, h5, h6, Eq.trans (by kernel_rfl) h7⟩
abbrev S32o (q p N : Nat) (rd : Int) (G : List AObj) : St := Sm 35 [(1, sD q N), (2, .ptr p 0), (8, dI (N : Int)), (9, dI rd)] G
def SQ (H : List AObj) (q N : Nat) (row : List Bool) (d : D) (h' : List AObj) : Prop := d = sD q N ∧ h'[q]? = some (bO row) ∧ PreB H h' q
theorem call20 (n : Nat) (H : List AObj) (m : S28) (q N : Nat) (hm : OkM m N) (row0 : List Bool) (h0 : row0.length = N) (hq : H[q]? = some (bO row0)) :
  CallT False Proofs.Try.prog 20 [.v (e28 m), sD q N] H (SQ H q N (itE frS toS siS m.fArcs N row0)) := by
 have hqH := lt_of_getElem? hq
 have hle := hm.le
 refine callT_of_ht (c := C20) (T := T) Proofs.Try.func20 (by kernel_rfl) T_ok ?_
 refine Ht.seq (by kernel_rfl) ?_
 refine Ht.region (hxO n) (by kernel_rfl) ?_
 refine Ops.seg' 2 2 (by kernel_rfl) ?_
 refine Ops.done (by kernel_rfl) ?_
 refine seqH.n ?_
 refine Ht.forget [1, 2] (Ht.st (σ' := Sm 35 [(1, sD q N), (2, .ptr H.length 0)] (H ++ [mD m])) (by kernel_rfl) ?_)
 have z1 : (H ++ [mD m])[H.length]? = some (mD m) := by rw [List.getElem?_append_right (Nat.le_refl _), Nat.sub_self]; rfl
 have hI0 : InvS H q m row0 (H ++ [mD m]) := ⟨z1, by rw [List.getElem?_append_left hqH]; exact hq, by simp, PreB.app _ _ _⟩
 refine Ht.seq (by kernel_rfl) ?_
 refine Ht.seq (by kernel_rfl) ?_
 refine Ht.region (hxO n) (by kernel_rfl) ?_
 refine Ops.seg' 1 1 (by kernel_rfl) ?_
 refine Ops.one' 2 (fun h0 e0 => ldc (i := ti3) (h := h0) (r := H.length) (off := 0) (cs := [dI m.fStates, .v (vP e53 m.fArcs), .v (vP e58 m.fFinals)]) (d := dI m.fStates) (hq_of (g := H ++ [mD m]) (e0.trans (by kernel_rfl)) z1) (by rfl)) (by kernel_rfl) (by kernel_rfl) ?_
 refine Ops.seg' 1 3 (by kernel_rfl) ?_
 refine Ops.done (by kernel_rfl) ?_
 refine seqH.n ?_
 refine Ht.block 0 (by kernel_rfl) ?_
 refine Ht.loop (fun k σ => ∃ (i : Nat) (row : List Bool) (G : List AObj), k = N - i ∧ i ≤ N ∧ row.length = N ∧ itE frS toS siS m.fArcs (N - i) row = itE frS toS siS m.fArcs N row0 ∧ InvS H q m row G ∧ Abs.forget [1, 2, 8, 9] σ = S32o q H.length N (i : Int) G) N (by kernel_rfl) ⟨0, row0, H ++ [mD m], rfl, Nat.zero_le _, h0, rfl, hI0, ?_⟩ ?_
 ·show Abs.forget [1, 2, 8, 9] _ = Sm 35 [(1, sD q N), (2, .ptr H.length 0), (8, dI (N : Int)), (9, dI ((0 : Nat) : Int))] (H ++ [mD m])
  rw [← hm.st]
  kernel_rfl
 rintro k σ ⟨i, row, G, rfl, hi, hrl, hit, hG, hσ⟩
 refine Ht.forget [1, 2, 8, 9] (Ht.st hσ ?_)
 clear hσ
 refine Ht.seq (by kernel_rfl) ?_
 refine Ht.region (hxO n) (by kernel_rfl) ?_
 refine Ops.seg' 1 1 (by kernel_rfl) ?_
 refine Ops.done (by kernel_rfl) ?_
 refine seqH.n ?_
 refine Ht.seq (by kernel_rfl) ?_
 refine Ht.cond (decide ((i : Int) < (N : Int))) (by kernel_rfl) (by kernel_rfl) (fun hc => ?_) (fun hc => ?_)
 case refine_2 =>
  have hc := of_decide_eq_false hc
  have hi2 : i = N := by omega
  refine Ht.exit (id := 0) (by kernel_rfl) ?_
  show Ht False Proofs.Try.prog (cR (cR C20)) _ _
  rw [hi2, Nat.sub_self] at hit
  have hit : row = itE frS toS siS m.fArcs N row0 := hit
  rw [hit] at hG
  refine Ht.seq (by kernel_rfl) ?_
  refine Ht.region (hxO n) (by kernel_rfl) ?_
  refine Ops.seg' 2 2 (by kernel_rfl) ?_
  refine Ops.done (by kernel_rfl) ?_
  refine seqH.n ?_
  refine Ht.ret (by kernel_rfl) ?_
  have hr : resOf Proofs.Try.prog 20 = [.tmp 4] := by kernel_rfl
  have fin : ∀ σ : St, σ.tmps.getD 4 .undef = sD q N → resultsD T σ (resOf Proofs.Try.prog 20) = some (sD q N) := fun σ h4 => by
   rw [hr]; simp only [resultsD, allM, resultD, h4]
  exact ⟨.inr rfl, sD q N, fin _ (by kernel_rfl), rfl, hG.row, hG.pre⟩
 have hc := of_decide_eq_true hc
 have hi : i < N := by omega
 have hw2 : w64 ((i : Int) + 1) = ((i + 1 : Nat) : Int) := by rw [w64_id ⟨by omega, by omega⟩]; omega
 have hstep : itE frS toS siS m.fArcs (N - (i + 1)) (passE frS toS siS m.fArcs row) = itE frS toS siS m.fArcs N row0 := by
  rw [← hit, show N - i = (N - (i + 1)) + 1 by omega]; rfl
 refine Ht.skip (by kernel_rfl) ?_
 refine seqH.n ?_
 refine Ht.seq (by kernel_rfl) ?_
 refine Ht.block 1 (by kernel_rfl) ?_
 refine Ht.seq (by kernel_rfl) ?_
 refine Ht.region (hxO n) (by kernel_rfl) ?_
 refine Ops.seg' 1 1 (by kernel_rfl) ?_
 refine Ops.one' 2 (fun h0 e0 => ldc (i := ti26) (h := h0) (r := H.length) (off := 1) (cs := [dI m.fStates, .v (vP e53 m.fArcs), .v (vP e58 m.fFinals)]) (d := .v (vP e53 m.fArcs)) (hq_of (g := G) (e0.trans (by kernel_rfl)) hG.mac) (by rfl)) (by kernel_rfl) (by kernel_rfl) ?_
 refine Ops.one' 3 (fun h0 e0 => len_r (T := T) h0 26 54 .plain e53 m.fArcs (by kernel_rfl)) (by kernel_rfl) (by kernel_rfl) ?_
 refine Ops.seg' 1 4 (by kernel_rfl) ?_
 refine Ops.done (by kernel_rfl) ?_
 refine seqH.n ?_
 refine Ht.block 2 (by kernel_rfl) ?_
 refine Ht.forget [1, 2, 8, 9, 12, 13, 14] (Ht.st (σ' := S32i m q H.length N (i : Int) 0 G) (by kernel_rfl) ?_)
 refine inner32 n H m q N hm hqH row hrl (i : Int) (fun G' σ' hG' hσ' => ?_) G hG
 refine blkH.x ?_
 refine blkH.n ?_
 refine seqH.n ?_
 refine Ht.forget [1, 2, 8, 9] (Ht.st hσ' ?_)
 refine Ht.region (hxO n) (by kernel_rfl) ?_
 refine Ops.seg' 2 2 (by kernel_rfl) ?_
 refine Ops.done (by kernel_rfl) ?_
 refine ⟨N - (i + 1), by omega, i + 1, passE frS toS siS m.fArcs row, G', rfl, hi, by rw [passE_len]; exact hrl, hstep, hG', ?_⟩
 have e : ∀ y : Int, y = ((i + 1 : Nat) : Int) → S32o q H.length N y G' = S32o q H.length N ((i + 1 : Nat) : Int) G' := fun y hy => by rw [hy]
 refine Eq.trans ?_ (e _ hw2)
 kernel_rfl
theorem is20 : Is Proofs.Try.prog 20 := ⟨Proofs.Try.f20, Proofs.Try.func20, by kernel_rfl, by kernel_rfl⟩
set_option maxHeartbeats 2000000
def lbS (a : S53) : Int := a.fIn
def stF (f : S58) : Nat := f.fState.toNat
structure OkA (m : S28) (N : Nat) : Prop extends OkM m N where
 fin : ∀ f ∈ m.fFinals, f.fState = (stF f : Int) ∧ stF f < N
 fins : m.fFinals.length ≤ 1000000
noncomputable def C8 : Code := bodyOf Proofs.Try.prog 8
noncomputable abbrev W8 : Code := cL (cR (cR (cR (cR C8))))
noncomputable abbrev F8 : Code := cR (cR (cR (cR (cR C8))))
noncomputable abbrev B8 : Code := cL (cL (cR W8))
noncomputable abbrev X8 : Code := cL (cL (cR (cR B8)))
noncomputable abbrev Y9 : Code := cR (cR X8)
noncomputable abbrev Z9 : Code := cL (cR Y9)
structure InvA (m : S28) (q q2 : Nat) (h nxt : List Bool) (G : List AObj) : Prop where
 mac : G[0]? = some (mD m)
 now : G[q]? = some (bO h)
 new : G[q2]? = some (bO nxt)
 ne : q ≠ q2
 q1 : 1 ≤ q
 q2 : 1 ≤ q2
theorem InvA.app {m : S28} {q q2 : Nat} {h nxt : List Bool} {G : List AObj} (i : InvA m q q2 h nxt G) (l : List AObj) : InvA m q q2 h nxt (G ++ l) :=
 ⟨by rw [List.getElem?_append_left (lt_of_getElem? i.mac)]; exact i.mac, by rw [List.getElem?_append_left (lt_of_getElem? i.now)]; exact i.now, by rw [List.getElem?_append_left (lt_of_getElem? i.new)]; exact i.new, i.ne, i.q1, i.q2⟩
theorem InvA.put {m : S28} {q q2 : Nat} {h nxt : List Bool} {G : List AObj} (i : InvA m q q2 h nxt G) {r : Nat} (h0 : r ≠ 0) (h1 : r ≠ q) (h2 : r ≠ q2) (o : AObj) : InvA m q q2 h nxt (G.set r o) :=
 ⟨by rw [List.getElem?_set_ne h0]; exact i.mac, by rw [List.getElem?_set_ne h1]; exact i.now, by rw [List.getElem?_set_ne h2]; exact i.new, i.ne, i.q1, i.q2⟩
theorem InvA.upd {m : S28} {q q2 : Nat} {h nxt : List Bool} {G : List AObj} (i : InvA m q q2 h nxt G) (nxt' : List Bool) : InvA m q q2 h nxt' (G.set q2 (bO nxt')) :=
 ⟨by rw [List.getElem?_set_ne (by have := i.q2; omega)]; exact i.mac, by rw [List.getElem?_set_ne (by have := i.ne; omega)]; exact i.now, List.getElem?_set_self (lt_of_getElem? i.new), i.ne, i.q1, i.q2⟩
abbrev S9z (m : S28) (w : List Int) (q q2 N : Nat) (x wi : Int) (i : Int) (G : List AObj) : St := Sm 75 [(2, .ptr 0 0), (5, sD q N), (7, dI x), (8, sD q2 N), (24, .v (eL eI w)), (25, dI (w.length : Int)), (26, dI wi), (36, .v (vP e53 m.fArcs)), (37, dI (m.fArcs.length : Int)), (38, dI i)] G
abbrev S9y (m : S28) (w : List Int) (q q2 N : Nat) (x wi : Int) (i : Int) (r : Nat) (G : List AObj) : St := Sm 75 [(2, .ptr 0 0), (5, sD q N), (7, dI x), (8, sD q2 N), (10, .ptr r 0), (24, .v (eL eI w)), (25, dI (w.length : Int)), (26, dI wi), (36, .v (vP e53 m.fArcs)), (37, dI (m.fArcs.length : Int)), (38, dI i)] G
def stp (x : Int) (h : List Bool) (g : List Bool) (a : S53) : List Bool := if lbS a == x && on h (frS a) then g.set (toS a) true else g
theorem stp_len (x : Int) (h g : List Bool) (a : S53) : (stp x h g a).length = g.length := by unfold stp; split <;> simp
def LA (m : S28) (w : List Int) (q q2 N : Nat) (x wi : Int) (h goal : List Bool) : Nat → St → Prop := fun k σ => ∃ (i : Nat) (nxt : List Bool) (G : List AObj), k = m.fArcs.length - i ∧ i ≤ m.fArcs.length ∧ nxt.length = N ∧ (m.fArcs.drop i).foldl (stp x h) nxt = goal ∧ InvA m q q2 h nxt G ∧ Abs.forget [2, 5, 7, 8, 24, 25, 26, 36, 37, 38] σ = S9z m w q q2 N x wi (i : Int) G
theorem arcs9 (n : Nat) (m : S28) (w : List Int) (q q2 N : Nat) (hm : OkM m N) (x wi : Int) (h : List Bool) (hh : h.length = N) (nxt0 : List Bool) (h0 : nxt0.length = N) {Q : Post}
  (hQ : ∀ G σ, InvA m q q2 h (m.fArcs.foldl (stp x h) nxt0) G → Abs.forget [2, 8, 24, 25, 26] σ = Sm 75 [(2, .ptr 0 0), (8, sD q2 N), (24, .v (eL eI w)), (25, dI (w.length : Int)), (26, dI wi)] G → Q (.exit 2) σ)
  (G : List AObj) (hG : InvA m q q2 h nxt0 G) : Ht False Proofs.Try.prog (cL (cR Z9)) (S9z m w q q2 N x wi 0 G) Q := by
 refine Ht.loop (LA m w q q2 N x wi h (m.fArcs.foldl (stp x h) nxt0)) m.fArcs.length (by kernel_rfl) ⟨0, nxt0, G, rfl, Nat.zero_le _, h0, rfl, hG, by kernel_rfl⟩ ?_
 clear hG G
 rintro k σ ⟨i, nxt, G, rfl, hi, hrl, hps, hG, hσ⟩
 refine Ht.forget [2, 5, 7, 8, 24, 25, 26, 36, 37, 38] (Ht.st hσ ?_)
 clear hσ
 refine Ht.seq (by kernel_rfl) ?_
 refine Ht.region (hxO n) (by kernel_rfl) ?_
 refine Ops.seg' 1 1 (by kernel_rfl) ?_
 refine Ops.done (by kernel_rfl) ?_
 refine seqH.n ?_
 refine Ht.seq (by kernel_rfl) ?_
 refine Ht.cond (decide ((i : Int) < (m.fArcs.length : Int))) (by kernel_rfl) (by kernel_rfl) (fun hc => ?_) (fun hc => ?_)
 case refine_2 =>
  have hc := of_decide_eq_false hc
  have hi2 : i = m.fArcs.length := by omega
  refine Ht.exit (id := 2) (by kernel_rfl) ?_
  show Q (.exit 2) _
  rw [List.drop_eq_nil_of_le (by omega)] at hps
  have hps : nxt = m.fArcs.foldl (stp x h) nxt0 := hps
  rw [hps] at hG
  exact hQ G _ hG (by kernel_rfl)
 have hc := of_decide_eq_true hc
 have hi : i < m.fArcs.length := by omega
 have hlen := hm.len
 have hw2 : w64 ((i : Int) + 1) = ((i + 1 : Nat) : Int) := by rw [w64_id ⟨by omega, by omega⟩]; omega
 obtain ⟨a, ha⟩ : ∃ a, m.fArcs[i]? = some a := ⟨_, List.getElem?_eq_getElem hi⟩
 have hix : idx m.fArcs (i : Int) = some a := by simp [idx, ha]
 obtain ⟨a1, a2, a3, a4⟩ := hm.arc a (List.mem_of_getElem? ha)
 have hdr : m.fArcs.drop i = a :: m.fArcs.drop (i + 1) := by
  rw [List.drop_eq_getElem_cons hi]
  rw [List.getElem?_eq_getElem hi] at ha
  rw [Option.some.inj ha]
 rw [hdr, List.foldl_cons] at hps
 refine Ht.skip (by kernel_rfl) ?_
 refine seqH.n ?_
 refine Ht.seq (by kernel_rfl) ?_
 refine Ht.block 3 (by kernel_rfl) ?_
 refine Ht.seq (by kernel_rfl) ?_
 have z1 : (G ++ [AObj.cells zA])[G.length]? = some (.cells zA) := by rw [List.getElem?_append_right (Nat.le_refl _), Nat.sub_self]; rfl
 refine Ht.region (hxO n) (by kernel_rfl) ?_
 refine Ops.one' 1 (fun h0 e0 => ix_r (T := T) h0 26 54 5 .plain e53 m.fArcs (i : Int) a hix (by kernel_rfl) (by kernel_rfl) (fun _ => rfl)) (by kernel_rfl) (by kernel_rfl) ?_
 refine Ops.seg' 2 3 (by kernel_rfl) ?_
 refine Ops.one' 4 (fun h0 e0 => stc (i := ti54) (h := h0) (r := G.length) (off := 0) (cs := zA) (cs' := aC a) (x := .v (e53 a)) (hq_of (g := G ++ [AObj.cells zA]) (e0.trans (by kernel_rfl)) z1) (by rfl) (by rfl)) (by kernel_rfl) (by kernel_rfl) ?_
 refine Ops.done (by kernel_rfl) ?_
 refine seqH.n ?_
 obtain ⟨G1, hG1⟩ : ∃ G1, (G ++ [AObj.cells zA]).set G.length (AObj.cells (aC a)) = G1 := ⟨_, rfl⟩
 refine Ht.forget [2, 5, 7, 8, 10, 24, 25, 26, 36, 37, 38] (Ht.st (σ' := S9y m w q q2 N x wi (i : Int) G.length ((G ++ [AObj.cells zA]).set G.length (AObj.cells (aC a)))) (by kernel_rfl) ?_)
 rw [hG1]
 have b1 : G1[G.length]? = some (.cells (aC a)) := by rw [← hG1]; exact List.getElem?_set_self (by simp)
 have hI1 : InvA m q q2 h nxt G1 := by
  rw [← hG1]
  have g0 := lt_of_getElem? hG.mac
  have g1 := lt_of_getElem? hG.now
  have g2 := lt_of_getElem? hG.new
  exact (hG.app _).put (by omega) (by omega) (by omega) _
 have hr1 := hI1.now
 have hr2 := hI1.new
 have hgt : h[frS a]? = some (on h (frS a)) := on_get (by omega)
 have fin : ∀ (nxt' : List Bool) (G' : List AObj), stp x h nxt a = nxt' → InvA m q q2 h nxt' G' → lpH (LA m w q q2 N x wi h (m.fArcs.foldl (stp x h) nxt0)) (m.fArcs.length - i) Q .normal (S9z m w q q2 N x wi (w64 ((i : Int) + 1)) G') := by
  intro nxt' G' hs hI
  refine ⟨m.fArcs.length - (i + 1), by omega, i + 1, nxt', G', rfl, hi, by rw [← hs, stp_len]; exact hrl, by rw [← hs]; exact hps, hI, ?_⟩
  rw [hw2]
  kernel_rfl
 have skipped : stp x h nxt a = nxt → ∀ σ, Abs.forget [2, 5, 7, 8, 24, 25, 26, 36, 37, 38] σ = S9z m w q q2 N x wi (i : Int) G1 → Ht False Proofs.Try.prog (cR (cR (cR (cL (cL (cR Z9)))))) σ (lpH (LA m w q q2 N x wi h (m.fArcs.foldl (stp x h) nxt0)) (m.fArcs.length - i) Q) := by
  intro hs σ hσ
  refine Ht.forget [2, 5, 7, 8, 24, 25, 26, 36, 37, 38] (Ht.st hσ ?_)
  refine Ht.region (hxO n) (by kernel_rfl) ?_
  refine Ops.seg' 2 2 (by kernel_rfl) ?_
  refine Ops.done (by kernel_rfl) ?_
  obtain ⟨f, h1, j', r', G', h2, h3, h4, h5, h6, h7⟩ := fin nxt G1 hs hI1
  exact ⟨f, h1, j', r', G', h2, h3, h4, h5, h6, Eq.trans (by kernel_rfl) h7⟩
 refine Ht.seq (by kernel_rfl) ?_
 by_cases he : a.fIn = x
 case neg =>
  have he2 : (a.fIn == x) = false := by simpa using he
  refine Ht.region (hxO n) (by kernel_rfl) ?_
  refine Ops.seg' 1 1 (by kernel_rfl) ?_
  refine Ops.one' 2 (fun h0 e0 => ldc (i := ti3) (h := h0) (r := G.length) (off := 2) (cs := aC a) (d := dI a.fIn) (hq_of (g := G1) (e0.trans (by kernel_rfl)) b1) (by rfl)) (by kernel_rfl) (by kernel_rfl) ?_
  refine Ops.seg' 1 3 (by kernel_rfl) ?_
  refine Ops.one' 4 (fun h0 e0 => bsub he2 h0) (by kernel_rfl) (by kernel_rfl) ?_
  refine Ops.seg' 7 11 (by kernel_rfl) ?_
  refine Ops.done (by kernel_rfl) ?_
  refine seqH.n ?_
  refine Ht.cond false (by kernel_rfl) (by kernel_rfl) (fun hc => nomatch hc) (fun _ => ?_)
  refine Ht.skip (by kernel_rfl) ?_
  refine blkH.n ?_
  refine seqH.n ?_
  exact skipped (by unfold stp lbS; rw [he2]; rfl) _ (by kernel_rfl)
 have he2 : (a.fIn == x) = true := by simpa using he
 refine Ht.region (hxO n) (by kernel_rfl) ?_
 refine Ops.seg' 1 1 (by kernel_rfl) ?_
 refine Ops.one' 2 (fun h0 e0 => ldc (i := ti3) (h := h0) (r := G.length) (off := 2) (cs := aC a) (d := dI a.fIn) (hq_of (g := G1) (e0.trans (by kernel_rfl)) b1) (by rfl)) (by kernel_rfl) (by kernel_rfl) ?_
 refine Ops.seg' 1 3 (by kernel_rfl) ?_
 refine Ops.one' 4 (fun h0 e0 => bsub he2 h0) (by kernel_rfl) (by kernel_rfl) ?_
 refine Ops.seg' 3 7 (by kernel_rfl) ?_
 refine Ops.one' 8 (fun h0 e0 => ldc (i := ti3) (h := h0) (r := G.length) (off := 0) (cs := aC a) (d := dI a.fFrom) (hq_of (g := G1) (e0.trans (by kernel_rfl)) b1) (by rfl)) (by kernel_rfl) (by kernel_rfl) ?_
 refine Ops.one' 9 (fun h0 e0 => ixB (h := h0) (r := q) (N := N) (i := frS a) (hq_of (g := G1) (e0.trans (by kernel_rfl)) hr1) a1 a2) (by kernel_rfl) (by kernel_rfl) ?_
 refine Ops.one' 10 (fun h0 e0 => ldB (h := h0) (r := q) (i := frS a) (hq_of (g := G1) (e0.trans (by kernel_rfl)) hr1) hgt) (by kernel_rfl) (by kernel_rfl) ?_
 refine Ops.seg' 1 11 (by kernel_rfl) ?_
 refine Ops.done (by kernel_rfl) ?_
 refine seqH.n ?_
 refine Ht.cond (on h (frS a)) (by kernel_rfl) (by kernel_rfl) (fun hx => ?_) (fun hx => ?_)
 case refine_2 =>
  refine Ht.skip (by kernel_rfl) ?_
  refine blkH.n ?_
  refine seqH.n ?_
  exact skipped (by unfold stp lbS; rw [he2, hx]; rfl) _ (by kernel_rfl)
 refine Ht.region (hxO n) (by kernel_rfl) ?_
 refine Ops.seg' 2 2 (by kernel_rfl) ?_
 refine Ops.one' 3 (fun h0 e0 => ldc (i := ti3) (h := h0) (r := G.length) (off := 1) (cs := aC a) (d := dI a.fTo) (hq_of (g := G1) (e0.trans (by kernel_rfl)) b1) (by rfl)) (by kernel_rfl) (by kernel_rfl) ?_
 refine Ops.one' 4 (fun h0 e0 => ixB (h := h0) (r := q2) (N := N) (i := toS a) (hq_of (g := G1) (e0.trans (by kernel_rfl)) hr2) a3 a4) (by kernel_rfl) (by kernel_rfl) ?_
 refine Ops.one' 5 (fun h0 e0 => stB (h := h0) (r := q2) (i := toS a) (x := true) (hq_of (g := G1) (e0.trans (by kernel_rfl)) hr2) (by rw [hrl]; exact a4)) (by kernel_rfl) (by kernel_rfl) ?_
 refine Ops.done (by kernel_rfl) ?_
 refine blkH.n ?_
 refine seqH.n ?_
 refine Ht.forget [2, 5, 7, 8, 24, 25, 26, 36, 37, 38] (Ht.st (σ' := S9z m w q q2 N x wi (i : Int) (G1.set q2 (bO (nxt.set (toS a) true)))) (by kernel_rfl) ?_)
 refine Ht.region (hxO n) (by kernel_rfl) ?_
 refine Ops.seg' 2 2 (by kernel_rfl) ?_
 refine Ops.done (by kernel_rfl) ?_
 obtain ⟨f, h1, j', r', G', h2, h3, h4, h5, h6, h7⟩ := fin (nxt.set (toS a) true) (G1.set q2 (bO (nxt.set (toS a) true))) (by unfold stp lbS; rw [he2, hx]; rfl) (hI1.upd _)
 exact ⟨f, h1, j', r', G', h2, h3, h4, h5, h6, Eq.trans (by kernel_rfl) h7⟩
def setE (m : S28) (N : Nat) (x : Int) (h : List Bool) : List Bool := itE frS toS siS m.fArcs N (stepL frS toS lbS x m.fArcs N h)
def resB (m : S28) (N : Nat) : List Int → List Bool → Bool
 | [], h => m.fFinals.any fun f => on h (stF f)
 | x :: w, h => if x < 1 then false else resB m N w (setE m N x h)
theorem resB_cons (m : S28) (N : Nat) (x : Int) (w : List Int) (h : List Bool) : resB m N (x :: w) h = if x < 1 then false else resB m N w (setE m N x h) := rfl
def P9 (b : Bool) : Post := fun e σ => (e = .normal ∨ e = .ret) ∧ ∃ d, resultsD T σ (resOf Proofs.Try.prog 8) = some d ∧ frz σ.heap 15 d = some (vB b)
theorem P9.of {b : Bool} {σ : St} (h4 : σ.tmps.getD 4 .undef = dB b) : P9 b .ret σ := by
 have hr : resOf Proofs.Try.prog 8 = [.tmp 4] := by kernel_rfl
 exact ⟨.inr rfl, dB b, by rw [hr]; simp only [resultsD, allM, resultD, h4], rfl⟩
structure InvW (m : S28) (q : Nat) (h : List Bool) (G : List AObj) : Prop where
 mac : G[0]? = some (mD m)
 now : G[q]? = some (bO h)
 q1 : 1 ≤ q
abbrev S9w (w : List Int) (q N : Nat) (i : Int) (G : List AObj) : St := Sm 75 [(2, .ptr 0 0), (5, sD q N), (24, .v (eL eI w)), (25, dI (w.length : Int)), (26, dI i)] G
theorem word9 (n : Nat) (m : S28) (w : List Int) (hw : w.length ≤ maxLen) (N : Nat) (hm : OkM m N) (h0 : List Bool) (hh0 : h0.length = N) {Q : Post}
  (hF : ∀ h q G σ, h.length = N → InvW m q h G → (m.fFinals.any fun f => on h (stF f)) = resB m N w h0 → Abs.forget [2, 5] σ = Sm 75 [(2, .ptr 0 0), (5, sD q N)] G → Q (.exit 0) σ)
  (hR : ∀ σ, resB m N w h0 = false → σ.tmps.getD 4 .undef = dB false → Q .ret σ)
  (q : Nat) (G : List AObj) (hG : InvW m q h0 G) : Ht False Proofs.Try.prog (cL (cR W8)) (S9w w q N 0 G) Q := by
 refine Ht.loop (fun k σ => ∃ (i : Nat) (h : List Bool) (q : Nat) (G : List AObj), k = w.length - i ∧ i ≤ w.length ∧ h.length = N ∧ resB m N (w.drop i) h = resB m N w h0 ∧ InvW m q h G ∧ Abs.forget [2, 5, 24, 25, 26] σ = S9w w q N (i : Int) G) w.length (by kernel_rfl) ⟨0, h0, q, G, rfl, Nat.zero_le _, hh0, rfl, hG, by kernel_rfl⟩ ?_
 clear hG G q
 rintro k σ ⟨i, h, q, G, rfl, hi, hrl, hps, hG, hσ⟩
 refine Ht.forget [2, 5, 24, 25, 26] (Ht.st hσ ?_)
 clear hσ
 refine Ht.seq (by kernel_rfl) ?_
 refine Ht.region (hxO n) (by kernel_rfl) ?_
 refine Ops.seg' 1 1 (by kernel_rfl) ?_
 refine Ops.done (by kernel_rfl) ?_
 refine seqH.n ?_
 refine Ht.seq (by kernel_rfl) ?_
 refine Ht.cond (decide ((i : Int) < (w.length : Int))) (by kernel_rfl) (by kernel_rfl) (fun hc => ?_) (fun hc => ?_)
 case refine_2 =>
  have hc := of_decide_eq_false hc
  refine Ht.exit (id := 0) (by kernel_rfl) ?_
  show Q (.exit 0) _
  rw [List.drop_eq_nil_of_le (by omega)] at hps
  exact hF h q G _ hrl hG hps (by kernel_rfl)
 have hc := of_decide_eq_true hc
 have hi : i < w.length := by omega
 have hml : maxLen = 9223372036854775807 := by decide
 have hle := hm.le
 have hw2 : w64 ((i : Int) + 1) = ((i + 1 : Nat) : Int) := by rw [w64_id ⟨by omega, by omega⟩]; omega
 obtain ⟨x, hx⟩ : ∃ x, w[i]? = some x := ⟨_, List.getElem?_eq_getElem hi⟩
 have hix : idx w (i : Int) = some x := by simp [idx, hx]
 have hdr : w.drop i = x :: w.drop (i + 1) := by
  rw [List.drop_eq_getElem_cons hi]
  rw [List.getElem?_eq_getElem hi] at hx
  rw [Option.some.inj hx]
 rw [hdr] at hps
 refine Ht.skip (by kernel_rfl) ?_
 refine seqH.n ?_
 refine Ht.seq (by kernel_rfl) ?_
 refine Ht.block 1 (by kernel_rfl) ?_
 refine Ht.seq (by kernel_rfl) ?_
 refine Ht.region (hxO n) (by kernel_rfl) ?_
 refine Ops.one' 1 (fun h0 e0 => ix_r (T := T) h0 22 3 1 .plain eI w (i : Int) x hix (by kernel_rfl) (by kernel_rfl) (fun _ => rfl)) (by kernel_rfl) (by kernel_rfl) ?_
 refine Ops.seg' 2 3 (by kernel_rfl) ?_
 refine Ops.done (by kernel_rfl) ?_
 refine seqH.n ?_
 refine Ht.seq (by kernel_rfl) ?_
 refine Ht.seq (by kernel_rfl) ?_
 refine Ht.region (hxO n) (by kernel_rfl) ?_
 refine Ops.seg' 2 2 (by kernel_rfl) ?_
 refine Ops.done (by kernel_rfl) ?_
 refine seqH.n ?_
 refine Ht.cond (decide (x < 1)) (by kernel_rfl) (by kernel_rfl) (fun hx1 => ?_) (fun hx1 => ?_)
 ·refine Ht.seq (by kernel_rfl) ?_
  refine Ht.region (hxO n) (by kernel_rfl) ?_
  refine Ops.seg' 1 1 (by kernel_rfl) ?_
  refine Ops.done (by kernel_rfl) ?_
  refine seqH.n ?_
  refine Ht.ret (by kernel_rfl) ?_
  show Q .ret _
  have hx1 := of_decide_eq_true hx1
  refine hR _ ?_ (by kernel_rfl)
  rw [← hps]
  rw [resB_cons, if_pos hx1]
 have hx1 := of_decide_eq_false hx1
 rw [resB_cons, if_neg hx1] at hps
 refine Ht.skip (by kernel_rfl) ?_
 refine seqH.n ?_
 refine Ht.seq (by kernel_rfl) ?_
 refine Ht.region (hxO n) (by kernel_rfl) ?_
 refine Ops.seg' 1 1 (by kernel_rfl) ?_
 refine Ops.one' 2 (fun h0 e0 => ldc (i := ti3) (h := h0) (r := 0) (off := 0) (cs := [dI m.fStates, .v (vP e53 m.fArcs), .v (vP e58 m.fFinals)]) (d := dI m.fStates) (hq_of (g := G) (e0.trans (by kernel_rfl)) hG.mac) (by rfl)) (by kernel_rfl) (by kernel_rfl) ?_
 refine Ops.one' 3 (fun h0 e0 => mk79 h0 (N := N) hm.st (by omega)) (by kernel_rfl) (by kernel_rfl) ?_
 refine Ops.seg' 1 4 (by kernel_rfl) ?_
 refine Ops.done (by kernel_rfl) ?_
 refine seqH.n ?_
 refine Ht.forget [2, 5, 7, 8, 24, 25, 26] (Ht.st (σ' := Sm 75 [(2, .ptr 0 0), (5, sD q N), (7, dI x), (8, sD G.length N), (24, .v (eL eI w)), (25, dI (w.length : Int)), (26, dI (i : Int))] (G ++ [bO (List.replicate N false)])) (by kernel_rfl) ?_)
 have g0 := lt_of_getElem? hG.mac
 have g1 := lt_of_getElem? hG.now
 have hA : InvA m q G.length h (List.replicate N false) (G ++ [bO (List.replicate N false)]) :=
  ⟨by rw [List.getElem?_append_left g0]; exact hG.mac, by rw [List.getElem?_append_left g1]; exact hG.now, by rw [List.getElem?_append_right (Nat.le_refl _), Nat.sub_self]; rfl, by omega, hG.q1, by omega⟩
 generalize G ++ [bO (List.replicate N false)] = G1 at hA
 refine Ht.seq (by kernel_rfl) ?_
 refine Ht.seq (by kernel_rfl) ?_
 refine Ht.region (hxO n) (by kernel_rfl) ?_
 refine Ops.seg' 1 1 (by kernel_rfl) ?_
 refine Ops.one' 2 (fun h0 e0 => ldc (i := ti26) (h := h0) (r := 0) (off := 1) (cs := [dI m.fStates, .v (vP e53 m.fArcs), .v (vP e58 m.fFinals)]) (d := .v (vP e53 m.fArcs)) (hq_of (g := G1) (e0.trans (by kernel_rfl)) hA.mac) (by rfl)) (by kernel_rfl) (by kernel_rfl) ?_
 refine Ops.one' 3 (fun h0 e0 => len_r (T := T) h0 26 54 .plain e53 m.fArcs (by kernel_rfl)) (by kernel_rfl) (by kernel_rfl) ?_
 refine Ops.seg' 1 4 (by kernel_rfl) ?_
 refine Ops.done (by kernel_rfl) ?_
 refine seqH.n ?_
 refine Ht.block 2 (by kernel_rfl) ?_
 refine Ht.forget [2, 5, 7, 8, 24, 25, 26, 36, 37, 38] (Ht.st (σ' := S9z m w q G.length N x (i : Int) 0 G1) (by kernel_rfl) ?_)
 refine arcs9 n m w q G.length N hm x (i : Int) h hrl (List.replicate N false) (by simp) (fun G' σ' hG' hσ' => ?_) G1 hA
 refine blkH.x ?_
 refine seqH.n ?_
 refine Ht.forget [2, 8, 24, 25, 26] (Ht.st hσ' ?_)
 have hst : m.fArcs.foldl (stp x h) (List.replicate N false) = stepL frS toS lbS x m.fArcs N h := rfl
 rw [hst] at hG'
 have hstl : (stepL frS toS lbS x m.fArcs N h).length = N := stepL_len (fun a ha => (hm.arc a ha).2.2.2) x h
 generalize hq2 : G.length = q2 at hG'
 refine Ht.regionCall' (hxO n) 2 (t := 60) (args := [.tmp 58, .tmp 59]) (Qc := SQ G' q2 N (setE m N x h)) (by kernel_rfl) is20 ?_
 refine OpsU.one' 1 (fun h0 e0 => ldc (i := ti29) (h := h0) (r := 0) (off := 0) (cs := [dI m.fStates, .v (vP e53 m.fArcs), .v (vP e58 m.fFinals)]) (d := .v (e28 m)) (hq_of (g := G') (e0.trans (by kernel_rfl)) hG'.mac) (by rfl)) (by kernel_rfl) (by kernel_rfl) ?_
 refine OpsU.seg' 1 2 (by kernel_rfl) ?_
 refine OpsU.done ⟨callT_eq (by kernel_rfl) (by kernel_rfl) (call20 n G' m q2 N hm _ hstl hG'.new), fun d h' hd => ?_⟩
 obtain ⟨rfl, s1, s2⟩ := hd
 refine Ops.seg' 1 4 (by kernel_rfl) ?_
 refine Ops.done (by kernel_rfl) ?_
 refine blkH.n ?_
 refine seqH.n ?_
 refine Ht.forget [2, 5, 24, 25, 26] (Ht.st (σ' := S9w w q2 N (i : Int) h') (by kernel_rfl) ?_)
 refine Ht.region (hxO n) (by kernel_rfl) ?_
 refine Ops.seg' 2 2 (by kernel_rfl) ?_
 refine Ops.done (by kernel_rfl) ?_
 have k0 : h'[0]? = some (mD m) := by
  rw [s2.2 0 (lt_of_getElem? hG'.mac) (by have := hG'.q2; omega)]
  exact hG'.mac
 refine ⟨w.length - (i + 1), by omega, i + 1, setE m N x h, q2, h', rfl, hi, ?_, hps, ⟨k0, s1, hG'.q2⟩, ?_⟩
 ·unfold setE
  rw [itE_len]
  exact hstl
 have e : ∀ y : Int, y = ((i + 1 : Nat) : Int) → S9w w q2 N y h' = S9w w q2 N ((i + 1 : Nat) : Int) h' := fun y hy => by rw [hy]
 refine Eq.trans ?_ (e _ hw2)
 kernel_rfl
set_option maxHeartbeats 2000000
abbrev zF : List D := [dI 0, dI 0]
abbrev fC (f : S58) : List D := [dI f.fState, dI f.fWeight]
abbrev S9f (m : S28) (q N : Nat) (i : Int) (G : List AObj) : St := Sm 75 [(2, .ptr 0 0), (5, sD q N), (63, .v (vP e58 m.fFinals)), (64, dI (m.fFinals.length : Int)), (65, dI i)] G
theorem fins9 (n : Nat) (m : S28) (N : Nat) (hm : OkA m N) (h : List Bool) (hh : h.length = N) (q : Nat) (G : List AObj) (hG : InvW m q h G) :
  Ht False Proofs.Try.prog F8 (Sm 75 [(2, .ptr 0 0), (5, sD q N)] G) (P9 (m.fFinals.any fun f => on h (stF f))) := by
 have hfl := hm.fins
 refine Ht.seq (by kernel_rfl) ?_
 refine Ht.seq (by kernel_rfl) ?_
 refine Ht.region (hxO n) (by kernel_rfl) ?_
 refine Ops.seg' 1 1 (by kernel_rfl) ?_
 refine Ops.one' 2 (fun h0 e0 => ldc (i := ti27) (h := h0) (r := 0) (off := 2) (cs := [dI m.fStates, .v (vP e53 m.fArcs), .v (vP e58 m.fFinals)]) (d := .v (vP e58 m.fFinals)) (hq_of (g := G) (e0.trans (by kernel_rfl)) hG.mac) (by rfl)) (by kernel_rfl) (by kernel_rfl) ?_
 refine Ops.one' 3 (fun h0 e0 => len_r (T := T) h0 27 59 .plain e58 m.fFinals (by kernel_rfl)) (by kernel_rfl) (by kernel_rfl) ?_
 refine Ops.seg' 1 4 (by kernel_rfl) ?_
 refine Ops.done (by kernel_rfl) ?_
 refine seqH.n ?_
 refine Ht.block 4 (by kernel_rfl) ?_
 refine Ht.loop (fun k σ => ∃ (i : Nat) (G : List AObj), k = m.fFinals.length - i ∧ i ≤ m.fFinals.length ∧ (m.fFinals.drop i).any (fun f => on h (stF f)) = (m.fFinals.any fun f => on h (stF f)) ∧ InvW m q h G ∧ Abs.forget [2, 5, 63, 64, 65] σ = S9f m q N (i : Int) G) m.fFinals.length (by kernel_rfl) ⟨0, G, rfl, Nat.zero_le _, rfl, hG, by kernel_rfl⟩ ?_
 clear hG G
 rintro k σ ⟨i, G, rfl, hi, hps, hG, hσ⟩
 refine Ht.forget [2, 5, 63, 64, 65] (Ht.st hσ ?_)
 clear hσ
 refine Ht.seq (by kernel_rfl) ?_
 refine Ht.region (hxO n) (by kernel_rfl) ?_
 refine Ops.seg' 1 1 (by kernel_rfl) ?_
 refine Ops.done (by kernel_rfl) ?_
 refine seqH.n ?_
 refine Ht.seq (by kernel_rfl) ?_
 refine Ht.cond (decide ((i : Int) < (m.fFinals.length : Int))) (by kernel_rfl) (by kernel_rfl) (fun hc => ?_) (fun hc => ?_)
 case refine_2 =>
  have hc := of_decide_eq_false hc
  refine Ht.exit (id := 4) (by kernel_rfl) ?_
  show Ht False Proofs.Try.prog (cR F8) _ (P9 _)
  rw [List.drop_eq_nil_of_le (by omega)] at hps
  refine Ht.seq (by kernel_rfl) ?_
  refine Ht.region (hxO n) (by kernel_rfl) ?_
  refine Ops.seg' 1 1 (by kernel_rfl) ?_
  refine Ops.done (by kernel_rfl) ?_
  refine seqH.n ?_
  refine Ht.ret (by kernel_rfl) ?_
  rw [← hps]
  exact P9.of (by kernel_rfl)
 have hc := of_decide_eq_true hc
 have hi : i < m.fFinals.length := by omega
 have hw2 : w64 ((i : Int) + 1) = ((i + 1 : Nat) : Int) := by rw [w64_id ⟨by omega, by omega⟩]; omega
 obtain ⟨f, hf⟩ : ∃ f, m.fFinals[i]? = some f := ⟨_, List.getElem?_eq_getElem hi⟩
 have hix : idx m.fFinals (i : Int) = some f := by simp [idx, hf]
 obtain ⟨a1, a2⟩ := hm.fin f (List.mem_of_getElem? hf)
 have hdr : m.fFinals.drop i = f :: m.fFinals.drop (i + 1) := by
  rw [List.drop_eq_getElem_cons hi]
  rw [List.getElem?_eq_getElem hi] at hf
  rw [Option.some.inj hf]
 rw [hdr, List.any_cons] at hps
 refine Ht.skip (by kernel_rfl) ?_
 refine seqH.n ?_
 refine Ht.seq (by kernel_rfl) ?_
 refine Ht.block 5 (by kernel_rfl) ?_
 refine Ht.seq (by kernel_rfl) ?_
 have z1 : (G ++ [AObj.cells zF])[G.length]? = some (.cells zF) := by rw [List.getElem?_append_right (Nat.le_refl _), Nat.sub_self]; rfl
 refine Ht.region (hxO n) (by kernel_rfl) ?_
 refine Ops.one' 1 (fun h0 e0 => ix_r (T := T) h0 27 59 2 .plain e58 m.fFinals (i : Int) f hix (by kernel_rfl) (by kernel_rfl) (fun _ => rfl)) (by kernel_rfl) (by kernel_rfl) ?_
 refine Ops.seg' 2 3 (by kernel_rfl) ?_
 refine Ops.one' 4 (fun h0 e0 => stc (i := ti59) (h := h0) (r := G.length) (off := 0) (cs := zF) (cs' := fC f) (x := .v (e58 f)) (hq_of (g := G ++ [AObj.cells zF]) (e0.trans (by kernel_rfl)) z1) (by rfl) (by rfl)) (by kernel_rfl) (by kernel_rfl) ?_
 refine Ops.done (by kernel_rfl) ?_
 refine seqH.n ?_
 obtain ⟨G1, hG1⟩ : ∃ G1, (G ++ [AObj.cells zF]).set G.length (AObj.cells (fC f)) = G1 := ⟨_, rfl⟩
 refine Ht.forget [2, 5, 12, 63, 64, 65] (Ht.st (σ' := Sm 75 [(2, .ptr 0 0), (5, sD q N), (12, .ptr G.length 0), (63, .v (vP e58 m.fFinals)), (64, dI (m.fFinals.length : Int)), (65, dI (i : Int))] ((G ++ [AObj.cells zF]).set G.length (AObj.cells (fC f)))) (by kernel_rfl) ?_)
 rw [hG1]
 have b1 : G1[G.length]? = some (.cells (fC f)) := by rw [← hG1]; exact List.getElem?_set_self (by simp)
 have hI1 : InvW m q h G1 := by
  have g0 := lt_of_getElem? hG.mac
  have g1 := lt_of_getElem? hG.now
  rw [← hG1]
  exact ⟨by rw [List.getElem?_set_ne (by omega), List.getElem?_append_left g0]; exact hG.mac, by rw [List.getElem?_set_ne (by omega), List.getElem?_append_left g1]; exact hG.now, hG.q1⟩
 have hgt : h[stF f]? = some (on h (stF f)) := on_get (by omega)
 refine Ht.seq (by kernel_rfl) ?_
 refine Ht.region (hxO n) (by kernel_rfl) ?_
 refine Ops.seg' 2 2 (by kernel_rfl) ?_
 refine Ops.one' 3 (fun h0 e0 => ldc (i := ti3) (h := h0) (r := G.length) (off := 0) (cs := fC f) (d := dI f.fState) (hq_of (g := G1) (e0.trans (by kernel_rfl)) b1) (by rfl)) (by kernel_rfl) (by kernel_rfl) ?_
 refine Ops.one' 4 (fun h0 e0 => ixB (h := h0) (r := q) (N := N) (i := stF f) (hq_of (g := G1) (e0.trans (by kernel_rfl)) hI1.now) a1 a2) (by kernel_rfl) (by kernel_rfl) ?_
 refine Ops.one' 5 (fun h0 e0 => ldB (h := h0) (r := q) (i := stF f) (hq_of (g := G1) (e0.trans (by kernel_rfl)) hI1.now) hgt) (by kernel_rfl) (by kernel_rfl) ?_
 refine Ops.done (by kernel_rfl) ?_
 refine seqH.n ?_
 refine Ht.cond (on h (stF f)) (by kernel_rfl) (by kernel_rfl) (fun hx => ?_) (fun hx => ?_)
 ·refine Ht.seq (by kernel_rfl) ?_
  refine Ht.region (hxO n) (by kernel_rfl) ?_
  refine Ops.seg' 1 1 (by kernel_rfl) ?_
  refine Ops.done (by kernel_rfl) ?_
  refine seqH.n ?_
  refine Ht.ret (by kernel_rfl) ?_
  show P9 _ .ret _
  rw [hx, Bool.true_or] at hps
  rw [← hps]
  exact P9.of (by kernel_rfl)
 refine Ht.skip (by kernel_rfl) ?_
 refine blkH.n ?_
 refine seqH.n ?_
 refine Ht.forget [2, 5, 63, 64, 65] (Ht.st (σ' := S9f m q N (i : Int) G1) (by kernel_rfl) ?_)
 refine Ht.region (hxO n) (by kernel_rfl) ?_
 refine Ops.seg' 2 2 (by kernel_rfl) ?_
 refine Ops.done (by kernel_rfl) ?_
 refine ⟨m.fFinals.length - (i + 1), by omega, i + 1, G1, rfl, hi, by rw [hx, Bool.false_or] at hps; exact hps, hI1, ?_⟩
 have e : ∀ y : Int, y = ((i + 1 : Nat) : Int) → S9f m q N y G1 = S9f m q N ((i + 1 : Nat) : Int) G1 := fun y hy => by rw [hy]
 refine Eq.trans ?_ (e _ hw2)
 kernel_rfl
def row1 (N : Nat) : List Bool := if 0 < N then (List.replicate N false).set 0 true else List.replicate N false
def accB (m : S28) (N : Nat) (w : List Int) : Bool := resB m N w (itE frS toS siS m.fArcs N (row1 N))
theorem row1_len (N : Nat) : (row1 N).length = N := by unfold row1; split <;> simp
theorem accepts9 (n : Nat) (m : S28) (N : Nat) (hm : OkA m N) (w : List Int) (hw : w.length ≤ maxLen) :
  Ht False Proofs.Try.prog C8 (startIn Proofs.Try.prog 8 [.v (e28 m), .v (eL eI w)] []) (P9 (accB m N w)) := by
 have hle := hm.le
 refine Ht.seq (by kernel_rfl) ?_
 refine Ht.region (hxO n) (by kernel_rfl) ?_
 refine Ops.seg' 2 2 (by kernel_rfl) ?_
 refine Ops.done (by kernel_rfl) ?_
 refine seqH.n ?_
 refine Ht.forget [1, 2] (Ht.st (σ' := Sm 75 [(1, .v (eL eI w)), (2, .ptr 0 0)] [mD m]) (by kernel_rfl) ?_)
 refine Ht.seq (by kernel_rfl) ?_
 refine Ht.region (hxO n) (by kernel_rfl) ?_
 refine Ops.seg' 2 2 (by kernel_rfl) ?_
 refine Ops.one' 3 (fun h0 e0 => mk79 h0 (N := N) hm.st (by omega)) (by kernel_rfl) (by kernel_rfl) ?_
 refine Ops.seg' 1 4 (by kernel_rfl) ?_
 refine Ops.done (by kernel_rfl) ?_
 refine seqH.n ?_
 refine Ht.forget [1, 2, 5] (Ht.st (σ' := Sm 75 [(1, .v (eL eI w)), (2, .ptr 0 0), (5, sD 1 N)] [mD m, bO (List.replicate N false)]) (by kernel_rfl) ?_)
 refine Ht.seq (by kernel_rfl) ?_
 have key : ∀ σ, Abs.forget [1, 2, 5] σ = Sm 75 [(1, .v (eL eI w)), (2, .ptr 0 0), (5, sD 1 N)] [mD m, bO (row1 N)] → Ht False Proofs.Try.prog (cR (cR (cR C8))) σ (P9 (accB m N w)) := by
  intro σ hσ
  refine Ht.forget [1, 2, 5] (Ht.st hσ ?_)
  have hrow : ([mD m, bO (row1 N)] : List AObj)[1]? = some (bO (row1 N)) := rfl
  have hmac : ([mD m, bO (row1 N)] : List AObj)[0]? = some (mD m) := rfl
  generalize [mD m, bO (row1 N)] = G at hrow hmac
  refine Ht.seq (by kernel_rfl) ?_
  refine Ht.regionCall' (hxO n) 2 (t := 23) (args := [.tmp 21, .tmp 22]) (Qc := SQ G 1 N (itE frS toS siS m.fArcs N (row1 N))) (by kernel_rfl) is20 ?_
  refine OpsU.one' 1 (fun h0 e0 => ldc (i := ti29) (h := h0) (r := 0) (off := 0) (cs := [dI m.fStates, .v (vP e53 m.fArcs), .v (vP e58 m.fFinals)]) (d := .v (e28 m)) (hq_of (g := G) (e0.trans (by kernel_rfl)) hmac) (by rfl)) (by kernel_rfl) (by kernel_rfl) ?_
  refine OpsU.seg' 1 2 (by kernel_rfl) ?_
  refine OpsU.done ⟨callT_eq (by kernel_rfl) (by kernel_rfl) (call20 n G m 1 N hm.toOkM _ (row1_len N) hrow), fun d h' hd => ?_⟩
  obtain ⟨rfl, s1, s2⟩ := hd
  refine Ops.seg' 1 4 (by kernel_rfl) ?_
  refine Ops.done (by kernel_rfl) ?_
  refine seqH.n ?_
  have k0 : h'[0]? = some (mD m) := by
   rw [s2.2 0 (lt_of_getElem? hmac) (by omega)]
   exact hmac
  refine Ht.forget [1, 2, 5] (Ht.st (σ' := Sm 75 [(1, .v (eL eI w)), (2, .ptr 0 0), (5, sD 1 N)] h') (by kernel_rfl) ?_)
  refine Ht.seq (by kernel_rfl) ?_
  refine Ht.seq (by kernel_rfl) ?_
  refine Ht.region (hxO n) (by kernel_rfl) ?_
  refine Ops.seg' 1 1 (by kernel_rfl) ?_
  refine Ops.one' 2 (fun h0 e0 => len_r (T := T) h0 22 3 .plain eI w (by kernel_rfl)) (by kernel_rfl) (by kernel_rfl) ?_
  refine Ops.seg' 1 3 (by kernel_rfl) ?_
  refine Ops.done (by kernel_rfl) ?_
  refine seqH.n ?_
  refine Ht.block 0 (by kernel_rfl) ?_
  refine Ht.forget [2, 5, 24, 25, 26] (Ht.st (σ' := S9w w 1 N 0 h') (by kernel_rfl) ?_)
  refine word9 n m w hw N hm.toOkM (itE frS toS siS m.fArcs N (row1 N)) (by rw [itE_len]; exact row1_len N) (fun h q G σ h1 h2 h3 h4 => ?_) (fun σ h1 h2 => ?_) 1 h' ⟨k0, s1, Nat.le_refl _⟩
  ·refine blkH.x ?_
   refine seqH.n ?_
   refine Ht.forget [2, 5] (Ht.st h4 ?_)
   unfold accB
   rw [← h3]
   exact fins9 n m N hm h h1 q G h2
  ·show P9 (accB m N w) .ret σ
   unfold accB
   rw [h1]
   exact P9.of h2
 refine Ht.seq (by kernel_rfl) ?_
 refine Ht.region (hxO n) (by kernel_rfl) ?_
 refine Ops.seg' 3 3 (by kernel_rfl) ?_
 refine Ops.done (by kernel_rfl) ?_
 refine seqH.n ?_
 have hgt : (m.fStates > 0) ↔ 0 < N := by rw [hm.st]; omega
 refine Ht.cond (decide (m.fStates > 0)) (by kernel_rfl) (by kernel_rfl) (fun hc => ?_) (fun hc => ?_)
 ·have h0N : 0 < N := hgt.1 (of_decide_eq_true hc)
  refine Ht.region (hxO n) (by kernel_rfl) ?_
  refine Ops.seg' 1 1 (by kernel_rfl) ?_
  refine Ops.one' 2 (fun h0 e0 => ixB (h := h0) (r := 1) (N := N) (i := 0) (hq_of (g := [mD m, bO (List.replicate N false)]) (e0.trans (by kernel_rfl)) rfl) rfl h0N) (by kernel_rfl) (by kernel_rfl) ?_
  refine Ops.one' 3 (fun h0 e0 => stB (h := h0) (r := 1) (i := 0) (x := true) (hq_of (g := [mD m, bO (List.replicate N false)]) (e0.trans (by kernel_rfl)) rfl) (by rw [List.length_replicate]; exact h0N)) (by kernel_rfl) (by kernel_rfl) ?_
  refine Ops.done (by kernel_rfl) ?_
  refine seqH.n ?_
  refine key _ ?_
  unfold row1
  rw [if_pos h0N]
  kernel_rfl
 ·have h0N : ¬ 0 < N := fun h => by have := of_decide_eq_false hc; exact this (hgt.2 h)
  refine Ht.skip (by kernel_rfl) ?_
  refine seqH.n ?_
  refine key _ ?_
  unfold row1
  rw [if_neg h0N]
  kernel_rfl
end Go.Abs.Rd
namespace Go.Abs
open Go.Sort Go.Proofs
set_option linter.unusedVariables false
set_option maxRecDepth 100000
def ArO (arcs : List S53) (s : Nat) (x : Int) (t : Nat) : Prop := ∃ a ∈ arcs, a.fFrom.toNat = s ∧ a.fIn = x ∧ a.fTo.toNat = t
namespace Rd
theorem eqW_iff (x y : S53) : eqW x y = true ↔ x.fFrom = y.fFrom ∧ x.fIn = y.fIn ∧ x.fOut = y.fOut ∧ x.fTo = y.fTo := by
 unfold eqW
 simp [and_assoc]
theorem goC_sub : ∀ (r : List S53) (p z : S53), z ∈ goC p r → z ∈ r
 | [], p, z, h => by cases h
 | y :: r, p, z, h => by
  by_cases hc : eqW y p = true
  ·rw [goC_eq hc] at h
   exact List.mem_cons_of_mem _ (goC_sub r y z h)
  ·rw [goC_ne (by simpa using hc)] at h
   rcases List.mem_cons.1 h with rfl | h
   ·exact List.mem_cons_self
   ·exact List.mem_cons_of_mem _ (goC_sub r y z h)
theorem goC_rep : ∀ (r : List S53) (p z : S53), z ∈ p :: r → ∃ y ∈ p :: goC p r, eqW z y = true
 | [], p, z, h => ⟨p, List.mem_cons_self, by
   rw [List.mem_singleton.1 h, eqW_iff]; exact ⟨rfl, rfl, rfl, rfl⟩⟩
 | x :: r, p, z, h => by
  rcases List.mem_cons.1 h with rfl | h
  ·exact ⟨z, List.mem_cons_self, by rw [eqW_iff]; exact ⟨rfl, rfl, rfl, rfl⟩⟩
  ·obtain ⟨y, hy, he⟩ := goC_rep r x z h
   by_cases hc : eqW x p = true
   ·rw [goC_eq hc]
    rcases List.mem_cons.1 hy with rfl | hy
    ·refine ⟨p, List.mem_cons_self, ?_⟩
     rw [eqW_iff] at he hc ⊢
     exact ⟨he.1.trans hc.1, he.2.1.trans hc.2.1, he.2.2.1.trans hc.2.2.1, he.2.2.2.trans hc.2.2.2⟩
    ·exact ⟨y, List.mem_cons_of_mem _ hy, he⟩
   ·rw [goC_ne (by simpa using hc)]
    exact ⟨y, List.mem_cons_of_mem _ hy, he⟩
theorem compactL_sub (l : List S53) (z : S53) (h : z ∈ compactL l) : z ∈ l := by
 cases l with
 | nil => exact h
 | cons x r =>
  rcases List.mem_cons.1 h with rfl | h
  ·exact List.mem_cons_self
  ·exact List.mem_cons_of_mem _ (goC_sub r x z h)
theorem compactL_rep (l : List S53) (z : S53) (h : z ∈ l) : ∃ y ∈ compactL l, eqW z y = true := by
 cases l with
 | nil => cases h
 | cons x r => exact goC_rep r x z h
theorem compactL_le : ∀ (l : List S53), (compactL l).length ≤ l.length := by
 have go : ∀ (r : List S53) (p : S53), (goC p r).length ≤ r.length := by
  intro r
  induction r with
  | nil => intro p; exact Nat.le_refl _
  | cons y r ih =>
   intro p
   by_cases hc : eqW y p = true
   ·rw [goC_eq hc]; exact Nat.le_succ_of_le (ih y)
   ·rw [goC_ne (by simpa using hc)]; exact Nat.succ_le_succ (ih y)
 intro l
 cases l with
 | nil => exact Nat.le_refl _
 | cons x r => exact Nat.succ_le_succ (go r x)
theorem red_ar (arcs : List S53) (s : Nat) (x : Int) (t : Nat) : ArO arcs s x t ↔ ∃ a ∈ redW (arcs.map outA), frS a = s ∧ lbS a = x ∧ toS a = t := by
 unfold redW
 constructor
 ·rintro ⟨a, ha, rfl, rfl, rfl⟩
  obtain ⟨y, hy, he⟩ := compactL_rep (srtC cmpA (arcs.map outA)) (outA a) (((srtC_perm _).mem_iff).2 (List.mem_map_of_mem ha))
  rw [eqW_iff] at he
  obtain ⟨e1, e2, e3, e4⟩ := he
  exact ⟨y, hy, congrArg Int.toNat e1.symm, e2.symm, congrArg Int.toNat e4.symm⟩
 ·rintro ⟨y, hy, rfl, rfl, rfl⟩
  have hy := ((srtC_perm _).mem_iff).1 (compactL_sub _ _ hy)
  obtain ⟨a, ha, rfl⟩ := List.mem_map.1 hy
  exact ⟨a, ha, rfl, rfl, rfl⟩
theorem resB_eq (m : S28) (N : Nat) : ∀ (w : List Int) (h : List Bool), resB m N w h = (w.all (fun x => decide (1 ≤ x)) && m.fFinals.any fun f => on (runA frS toS lbS m.fArcs N w h) (stF f))
 | [], h => by simp [resB, runA]
 | x :: w, h => by
  rw [resB_cons]
  by_cases hx : x < 1
  ·rw [if_pos hx, List.all_cons, decide_eq_false (by omega)]; rfl
  ·rw [if_neg hx, List.all_cons, decide_eq_true (by omega), Bool.true_and, resB_eq m N w]
   rfl
theorem on_row1 {N : Nat} (h : 1 ≤ N) (i : Nat) : on (row1 N) i = true ↔ i = 0 := by
 unfold row1
 rw [if_pos (by omega), on_set (by rw [List.length_replicate]; omega), on_replicate]
 simp
theorem accB_iff {m : S28} {N : Nat} (hm : OkA m N) (h1 : 1 ≤ N) (w : List Int) : accB m N w = true ↔ (∀ x ∈ w, 1 ≤ x) ∧ ∃ f ∈ m.fFinals, Pth frS toS lbS m.fArcs 0 w (stF f) := by
 have ht : ∀ a ∈ m.fArcs, toS a < N := fun a ha => (hm.arc a ha).2.2.2
 have hl : (itE frS toS siS m.fArcs N (row1 N)).length = N := by rw [itE_len, row1_len]
 have ht1 : ∀ a ∈ m.fArcs, toS a < (row1 N).length := fun a ha => by rw [row1_len]; exact ht a ha
 have hon : ∀ s, on (itE frS toS siS m.fArcs N (row1 N)) s = true ↔ RE frS toS siS m.fArcs (row1 N) s := fun s => itE_iff ht1 (by rw [row1_len]; exact Nat.le_refl _) s
 unfold accB
 rw [resB_eq, Bool.and_eq_true, List.all_eq_true, List.any_eq_true]
 refine ⟨fun ⟨h2, f, hf, h3⟩ => ?_, fun ⟨h2, f, hf, h3⟩ => ?_⟩
 ·have h2 : ∀ x ∈ w, 1 ≤ x := fun x hx => of_decide_eq_true (h2 x hx)
  refine ⟨h2, f, hf, ?_⟩
  have hc : Clo (fr := frS) (to := toS) (lb := lbS) m.fArcs (itE frS toS siS m.fArcs N (row1 N)) := itE_clo ht1 (by rw [row1_len]; exact Nat.le_refl _)
  obtain ⟨s, hs, hp⟩ := (runA_iff ht w _ hl hc (fun x hx => by have := h2 x hx; omega) (stF f)).1 h3
  obtain ⟨s0, g1, g2⟩ := RE.pth (lb := lbS) ((hon s).1 hs)
  rw [on_row1 h1] at g1
  subst g1
  exact g2.app hp
 ·refine ⟨fun x hx => decide_eq_true (h2 x hx), f, hf, ?_⟩
  have hc : Clo (fr := frS) (to := toS) (lb := lbS) m.fArcs (itE frS toS siS m.fArcs N (row1 N)) := itE_clo ht1 (by rw [row1_len]; exact Nat.le_refl _)
  exact (runA_iff ht w _ hl hc (fun x hx => by have := h2 x hx; omega) (stF f)).2 ⟨0, (hon 0).2 (.base ((on_row1 h1 0).2 rfl)), h3⟩
end Rd
end Go.Abs
