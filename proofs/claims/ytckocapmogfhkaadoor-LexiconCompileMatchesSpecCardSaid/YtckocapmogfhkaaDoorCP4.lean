import Derived.Test.YtckocapmogfhkaaDoorCP3
namespace Go.Abs
open Go.Sort Go.Proofs
set_option linter.unusedVariables false
set_option maxRecDepth 100000
theorem lessS_irrefl (a : ByteArray) : lessS a a = false := bls_irrefl _
theorem atS_spec (t : ByteArray) : ∀ (T : List ByteArray), SS T → (∀ i x, T[i]? = some x → i < atS t T → lessS x t = true) ∧ (∀ i x, T[i]? = some x → atS t T ≤ i → lessS x t = false)
 | [], _ => ⟨fun i x h => by simp at h, fun i x h => by simp at h⟩
 | y :: r, h => by
  have hc := List.pairwise_cons.1 h
  obtain ⟨i1, i2⟩ := atS_spec t r hc.2
  simp only [atS]
  by_cases hl : lessS y t = true
  ·simp only [hl, if_true]
   constructor
   ·intro i x hx hi
    cases i with
    | zero => simp at hx; subst hx; exact hl
    | succ i => exact i1 i x (by simpa using hx) (by omega)
   ·intro i x hx hi
    cases i with
    | zero => omega
    | succ i => exact i2 i x (by simpa using hx) (by omega)
  ·simp only [hl, Bool.false_eq_true, if_false]
   refine ⟨fun i x _ hi => by omega, fun i x hx _ => ?_⟩
   cases i with
   | zero => simp at hx; subst hx; simpa using hl
   | succ i =>
    have hm := hc.1 x (List.mem_of_getElem? (i := i) (by simpa using hx))
    cases hq : lessS x t with
    | false => rfl
    | true => exact absurd (bls_trans hm hq) hl
theorem atS_mem {t : ByteArray} : ∀ {T : List ByteArray}, SS T → t ∈ T → T[atS t T]? = some t
 | [], _, h => by cases h
 | y :: r, hs, h => by
  have hc := List.pairwise_cons.1 hs
  simp only [atS]
  rcases List.mem_cons.1 h with rfl | h
  ·rw [if_neg (by rw [lessS_irrefl]; simp)]; rfl
  ·have hl : lessS y t = true := hc.1 t h
   rw [if_pos hl]
   simpa using atS_mem hc.2 h
theorem ss_inj {t : ByteArray} : ∀ {T : List ByteArray}, SS T → ∀ {i j : Nat}, T[i]? = some t → T[j]? = some t → i = j
 | [], _, i, j, h, _ => by simp at h
 | y :: r, hs, i, j, h1, h2 => by
  have hc := List.pairwise_cons.1 hs
  cases i with
  | zero =>
   cases j with
   | zero => rfl
   | succ j =>
    simp at h1
    subst h1
    have := hc.1 y (List.mem_of_getElem? (i := j) (by simpa using h2))
    rw [show bls (bl y) (bl y) = false from bls_irrefl _] at this; cases this
  | succ i =>
   cases j with
   | zero =>
    simp at h2
    subst h2
    have := hc.1 y (List.mem_of_getElem? (i := i) (by simpa using h1))
    rw [show bls (bl y) (bl y) = false from bls_irrefl _] at this; cases this
   | succ j => rw [ss_inj hc.2 (i := i) (j := j) (by simpa using h1) (by simpa using h2)]
theorem f25_eq (m : Nat) (a b : ByteArray) : f25 m a b = some (lessS a b) := by
 unfold f25 f25_r2 f25_r1 f42
 rw [tl_eq a a, decide_eq_true rfl]
 simp only [Bool.not_true, bnd_some', cnd_false, Bool.false_or, less_eq]
theorem half (lo hi : Nat) (h : lo < hi) (hb : hi ≤ 1000000) : w64 (Int.fdiv (IntKind.u64.wrap (w64 ((lo : Int) + (hi : Int)))) (2 ^ (min (1 : Int).toNat IntKind.u64.bits))) = (((lo + hi) / 2 : Nat) : Int) := by
 have h1 : w64 ((lo : Int) + (hi : Int)) = ((lo + hi : Nat) : Int) := by rw [w64_id ⟨by omega, by omega⟩]; omega
 have h2 : IntKind.u64.wrap ((lo + hi : Nat) : Int) = ((lo + hi : Nat) : Int) := by
  unfold IntKind.wrap
  simp [IntKind.bits, IntKind.signed]
  omega
 rw [h1, h2]
 have h3 : (2 : Int) ^ (min (1 : Int).toNat IntKind.u64.bits) = 2 := by decide
 rw [h3]
 have h4 : Int.fdiv ((lo + hi : Nat) : Int) 2 = (((lo + hi) / 2 : Nat) : Int) := by
  rw [Int.fdiv_eq_ediv_of_nonneg _ (by decide)]; omega
 rw [h4, w64_id ⟨by omega, by omega⟩]
theorem f10_loop (m : Nat) (T : List ByteArray) (t : ByteArray) (hs : SS T) (hT : T.length ≤ 1000000) : ∀ (K lo hi : Nat), lo ≤ atS t T → atS t T ≤ hi → hi ≤ T.length → hi - lo < K →
  iter (fun (y : Int × Int) => f10_B3 m T t y.1 y.2) K ((lo : Int), (hi : Int)) = some (.inr ((atS t T : Int), (atS t T : Int)))
 | 0, lo, hi, _, _, _, h => by omega
 | K + 1, lo, hi, h1, h2, h3, h4 => by
  unfold iter
  rcases Nat.lt_or_ge lo hi with hlt | hge
  ·have hmid : (lo + hi) / 2 < T.length := by omega
   have hx := List.getElem?_eq_getElem hmid
   obtain ⟨s1, s2⟩ := atS_spec t T hs
   have e0 : f10_B3 m T t (lo : Int) (hi : Int) = if lessS T[(lo + hi) / 2] t then some (.nxt ((((lo + hi) / 2 + 1 : Nat) : Int), (hi : Int))) else some (.nxt ((lo : Int), (((lo + hi) / 2 : Nat) : Int))) := by
    unfold f10_B3
    rw [decide_eq_true (by omega), cnd_true, half lo hi hlt (by omega), idx_get, hx, bnd_some', f25_eq, bnd_some', w64_nat _ (by omega)]
    cases lessS T[(lo + hi) / 2] t <;> rfl
   simp only [e0]
   by_cases hl : lessS T[(lo + hi) / 2] t = true
   ·simp only [hl, if_true]
    refine f10_loop m T t hs hT K _ hi ?_ h2 h3 (by omega)
    rcases Nat.lt_or_ge ((lo + hi) / 2) (atS t T) with g | g
    ·omega
    ·rw [s2 _ _ hx g] at hl; cases hl
   ·simp only [hl, Bool.false_eq_true, if_false]
    refine f10_loop m T t hs hT K lo _ h1 ?_ (by omega) (by omega)
    rcases Nat.lt_or_ge ((lo + hi) / 2) (atS t T) with g | g
    ·exact absurd (s1 _ _ hx g) hl
    ·exact g
  ·have e1 : lo = atS t T := by omega
   have e2 : hi = atS t T := by omega
   subst e1
   rw [e2]
   have e0 : f10_B3 m T t (atS t T : Int) (atS t T : Int) = some (.brk ((atS t T : Int), (atS t T : Int))) := by
    unfold f10_B3
    rw [decide_eq_false (by omega)]; rfl
   simp only [e0]
theorem f10_eq (m : Nat) (T : List ByteArray) (t : ByteArray) (hs : SS T) (hT : T.length ≤ 1000000) (hm : T.length < m) : ∃ b, f10 m T t = some ((atS t T : Int), b) := by
 have h := f10_loop m T t hs hT m 0 T.length (Nat.zero_le _) (atS_le t T) (Nat.le_refl _) (by omega)
 have h : iter (fun (y : Int × Int) => f10_B3 m T t y.1 y.2) m (0, (T.length : Int)) = _ := h
 unfold f10 f10_r4
 rw [h, brk_inr]
 have h26 : ∀ z, f26 m z = some false := fun z => by unfold f26; rw [tl_eq z z, decide_eq_true rfl]; rfl
 by_cases hl : atS t T < T.length
 ·rw [decide_eq_true (by simp only; omega), cnd_true]
  simp only [idx_get, List.getElem?_eq_getElem hl, bnd_some', h26, cnd_false]
  cases (T[atS t T].toList == t.toList) <;> exact ⟨_, rfl⟩
 ·rw [decide_eq_false (by simp only; omega)]
  exact ⟨_, rfl⟩
def tagN (T : List ByteArray) (t : ByteArray) : Int := 983040 + (atS t T : Int)
def inL (T : List ByteArray) (ts : List ByteArray) (p : List Int) : List Int := p ++ ts.map (tagN T)
theorem inL_snoc (T ts : List ByteArray) (t : ByteArray) (p : List Int) : inL T (ts ++ [t]) p = inL T ts p ++ [tagN T t] := by simp [inL]
theorem inL_len (T ts : List ByteArray) (p : List Int) : (inL T ts p).length = p.length + ts.length := by simp [inL]
theorem tagN_w (T : List ByteArray) (t : ByteArray) (hT : T.length ≤ 1000000) : w64 (983040 + (atS t T : Int)) = tagN T t := by
 have := atS_le t T
 exact w64_id ⟨by omega, by omega⟩
theorem f4_in (m : Nat) (T : List ByteArray) (x : S34) (p : List Int) (hs : SS T) (hT : T.length ≤ 20000) (hx : x.fTags.length ≤ 4) (hp : p.length ≤ 10000) (hm : 200000 ≤ m) :
  iter (fun (y : (List Int) × Int) => f4_B1 m T x y.1 y.2) m (p, 0) = some (.inr (inL T x.fTags p, (x.fTags.length : Int))) := by
 refine iter_at (fun (y : (List Int) × Int) => f4_B1 m T x y.1 y.2) (fun i => (inL T (x.fTags.take i) p, (i : Int))) x.fTags.length ?_ (fun j hj => ?_) ?_ (by omega)
 ·simp [inL]
 ·obtain ⟨t, ht⟩ : ∃ t, x.fTags[j]? = some t := ⟨_, List.getElem?_eq_getElem (by omega)⟩
  obtain ⟨b, hb⟩ := f10_eq m T t hs (by omega) (by omega)
  have hl := inL_len T (x.fTags.take j) p
  rw [List.length_take] at hl
  show f4_B1 m T x (inL T (x.fTags.take j) p) (j : Int) = _
  unfold f4_B1
  rw [decide_eq_true (by omega), cnd_true, idx_get, ht, bnd_some', hb, bnd_some', tagN_w T t (by omega), app_some 8 _ _ (by simp only [List.length_singleton]; omega) (by simp only [List.length_singleton]; omega), bnd_some', w64_nat j (by omega), take_snoc ht, inL_snoc]
 ·show f4_B1 m T x (inL T (x.fTags.take x.fTags.length) p) (x.fTags.length : Int) = _
  unfold f4_B1
  rw [decide_eq_false (by omega), cnd_false, List.take_length]
theorem f6_find (m : Nat) (T : List ByteArray) (t : ByteArray) (p : List Int) (hs : SS T) (ht : t ∈ T) (hT : T.length ≤ 20000) (hp : p.length ≤ 100000) (hm : 200000 ≤ m) :
  iter (fun (y : (List Int) × Int) => f6_B3 m T t y.1 y.2) m (p, 0) = some (.inr (p ++ [tagN T t], (T.length : Int))) := by
 have hat := atS_mem hs ht
 have hlt := lt_of_getElem? hat
 refine iter_at (fun (y : (List Int) × Int) => f6_B3 m T t y.1 y.2) (fun i => (if i ≤ atS t T then p else p ++ [tagN T t], (i : Int))) T.length ?_ (fun j hj => ?_) ?_ (by omega)
 ·simp
 ·obtain ⟨u, hu⟩ : ∃ t, T[j]? = some t := ⟨_, List.getElem?_eq_getElem (by omega)⟩
  show f6_B3 m T t (if j ≤ atS t T then p else p ++ [tagN T t]) (j : Int) = _
  unfold f6_B3 f6_j2 f6_j1
  rw [decide_eq_true (by omega), cnd_true, idx_get, hu, bnd_some', tl_eq]
  by_cases he : t = u
  ·subst he
   have hj' := ss_inj hs hu hat
   rw [decide_eq_true rfl, cnd_true, if_pos (by omega), hj', tagN_w T t (by omega), app_some 8 _ _ (by simp only [List.length_singleton]; omega) (by simp only [List.length_singleton]; omega), bnd_some', w64_nat _ (by omega), if_neg (by omega)]
  ·have hne : j ≠ atS t T := fun e => by subst e; rw [hu] at hat; exact he (Option.some.inj hat).symm
   rw [decide_eq_false he, cnd_false, w64_nat _ (by omega)]
   by_cases g : j ≤ atS t T
   ·rw [if_pos g, if_pos (by omega)]
   ·rw [if_neg g, if_neg (by omega)]
 ·show f6_B3 m T t (if T.length ≤ atS t T then p else p ++ [tagN T t]) (T.length : Int) = _
  unfold f6_B3
  rw [decide_eq_false (by omega), cnd_false, if_neg (by omega)]
theorem f6_in (m : Nat) (T : List ByteArray) (x : S34) (p : List Int) (hs : SS T) (hT : T.length ≤ 20000) (hmem : ∀ t ∈ x.fTags, t ∈ T) (hx : x.fTags.length ≤ 4) (hp : p.length ≤ 10000) (hm : 200000 ≤ m) :
  iter (fun (y : (List Int) × Int) => f6_B4 m T x y.1 y.2) m (p, 0) = some (.inr (inL T x.fTags p, (x.fTags.length : Int))) := by
 refine iter_at (fun (y : (List Int) × Int) => f6_B4 m T x y.1 y.2) (fun i => (inL T (x.fTags.take i) p, (i : Int))) x.fTags.length ?_ (fun j hj => ?_) ?_ (by omega)
 ·simp [inL]
 ·obtain ⟨t, ht⟩ : ∃ t, x.fTags[j]? = some t := ⟨_, List.getElem?_eq_getElem (by omega)⟩
  have hl := inL_len T (x.fTags.take j) p
  rw [List.length_take] at hl
  show f6_B4 m T x (inL T (x.fTags.take j) p) (j : Int) = _
  unfold f6_B4
  rw [decide_eq_true (by omega), cnd_true, idx_get, ht, bnd_some', f6_find m T t _ hs (hmem t (List.mem_of_getElem? ht)) hT (by omega) hm, brk_inr, w64_nat j (by omega), take_snoc ht, inL_snoc]
 ·show f6_B4 m T x (inL T (x.fTags.take x.fTags.length) p) (x.fTags.length : Int) = _
  unfold f6_B4
  rw [decide_eq_false (by omega), cnd_false, List.take_length]
def stepsN (a b : List Int) : Nat := max (max a.length b.length) 1
def arcN (i S to w : Int) (a b : List Int) (k : Nat) : S40 :=
 ⟨if k = 0 then i else S + k - 1, if k + 1 < stepsN a b then S + k else to, a[k]?.getD 0, b[k]?.getD 0, if k = 0 then w else 0⟩
def arcsN (i S to w : Int) (a b : List Int) : List S40 := (List.range (stepsN a b)).map (arcN i S to w a b)
theorem arcsN_len (i S to w : Int) (a b : List Int) : (arcsN i S to w a b).length = stepsN a b := by simp [arcsN]
theorem arcsN_get {i S to w : Int} {a b : List Int} {k : Nat} (hk : k < stepsN a b) : (arcsN i S to w a b)[k]? = some (arcN i S to w a b k) := by
 unfold arcsN
 rw [List.getElem?_map, List.getElem?_range hk]; rfl
theorem steps_if (a b : List Int) : (if 1 > (if (b.length : Int) > (a.length : Int) then (b.length : Int) else (a.length : Int)) then (1 : Int) else (if (b.length : Int) > (a.length : Int) then (b.length : Int) else (a.length : Int))) = (stepsN a b : Int) := by
 unfold stepsN
 split <;> split at * <;> omega
theorem get_or {β : Type} {a : List Int} {k : Nat} {K : Int → Option β} : cnd (decide ((k : Int) < (a.length : Int))) (bnd (idx a (k : Int)) K) (K 0) = K (a[k]?.getD 0) := by
 rw [idx_get]
 rcases Nat.lt_or_ge k a.length with h | h
 ·rw [decide_eq_true (by omega), cnd_true, List.getElem?_eq_getElem h]; rfl
 ·rw [decide_eq_false (by omega), cnd_false, List.getElem?_eq_none h]; rfl
theorem f4_arcs (m : Nat) (y : (List Int) × Int) (v : (List Int) × S29) (i S to w : Int) (A : List S40) (hi : 0 ≤ i) (hS : 0 ≤ S) (hSb : S ≤ 1000) (hA : A.length ≤ 1000000) (hy : y.1.length ≤ 1000) (hv : v.1.length ≤ 1000) (hm : 2000 ≤ m) :
  iter (fun (z : Int × Int × Int × Int × (List S40)) => f4_B5 m y v to z.1 z.2.1 z.2.2.1 z.2.2.2.1 z.2.2.2.2) m (i, w, 0, S, A) =
   some (.inr (to, 0, (stepsN y.1 v.1 : Int), S + stepsN y.1 v.1 - 1, A ++ arcsN i S to w y.1 v.1)) := by
 have hn1 : 1 ≤ stepsN y.1 v.1 := by unfold stepsN; omega
 have hn2 : stepsN y.1 v.1 ≤ 1000 := by unfold stepsN; omega
 refine iter_at (fun (z : Int × Int × Int × Int × (List S40)) => f4_B5 m y v to z.1 z.2.1 z.2.2.1 z.2.2.2.1 z.2.2.2.2)
  (fun k => (if k = 0 then i else if k < stepsN y.1 v.1 then S + k - 1 else to, if k = 0 then w else 0, (k : Int), S + (min k (stepsN y.1 v.1 - 1) : Nat), A ++ (arcsN i S to w y.1 v.1).take k)) (stepsN y.1 v.1) ?_ (fun k hk => ?_) ?_ (by omega)
 ·simp
 ·show f4_B5 m y v to (if k = 0 then i else if k < stepsN y.1 v.1 then S + k - 1 else to) (if k = 0 then w else 0) (k : Int) (S + (min k (stepsN y.1 v.1 - 1) : Nat)) (A ++ (arcsN i S to w y.1 v.1).take k) = _
  have hwk := w64_nat k (by omega)
  have hlen : (A ++ (arcsN i S to w y.1 v.1).take k).length ≤ 1001000 := by rw [List.length_append, List.length_take]; omega
  have hmin : min k (stepsN y.1 v.1 - 1) = k := by omega
  have hwn : w64 ((stepsN y.1 v.1 : Int) - 1) = ((stepsN y.1 v.1 - 1 : Nat) : Int) := by rw [w64_id ⟨by omega, by omega⟩]; omega
  have happ : ∀ e : S40, app 40 (A ++ (arcsN i S to w y.1 v.1).take k) [e] = some (A ++ (arcsN i S to w y.1 v.1).take k ++ [e]) := fun e => app_some 40 _ _ (by simp only [List.length_singleton]; omega) (by simp only [List.length_singleton]; omega)
  unfold f4_B5
  rw [steps_if, decide_eq_true (by omega), cnd_true, get_or (K := fun a => f4_j4 m y v to _ _ _ _ _ a)]
  unfold f4_j4
  rw [get_or (K := fun a => f4_j3 m y v to _ _ _ _ _ _ a)]
  unfold f4_j3 f4_j2
  rw [steps_if, hwn, hmin, if_pos hk]
  have hW : (if k + 1 = 0 then w else 0) = 0 := if_neg (by omega)
  rw [hW, take_snoc (arcsN_get hk), ← List.append_assoc]
  by_cases h1 : k + 1 < stepsN y.1 v.1
  ·have hFr : (if k + 1 = 0 then i else if k + 1 < stepsN y.1 v.1 then S + ((k + 1 : Nat) : Int) - 1 else to) = S + (k : Int) := by rw [if_neg (by omega), if_pos h1]; omega
   have hSt : S + ((min (k + 1) (stepsN y.1 v.1 - 1) : Nat) : Int) = S + (k : Int) + 1 := by
    rw [show min (k + 1) (stepsN y.1 v.1 - 1) = k + 1 by omega]; omega
   have hwS : w64 (S + (k : Int) + 1) = S + (k : Int) + 1 := w64_id ⟨by omega, by omega⟩
   have e3 : (⟨if k = 0 then i else S + (k : Int) - 1, S + ((k : Nat) : Int), y.1[k]?.getD 0, v.1[k]?.getD 0, if k = 0 then w else 0⟩ : S40) = arcN i S to w y.1 v.1 k := by simp [arcN, h1]
   rw [hFr, hSt, decide_eq_true (by omega), cnd_true, happ, bnd_some', hwk, hwS, e3]
  ·have hFr : (if k + 1 = 0 then i else if k + 1 < stepsN y.1 v.1 then S + ((k + 1 : Nat) : Int) - 1 else to) = to := by rw [if_neg (by omega), if_neg h1]
   have hSt : S + ((min (k + 1) (stepsN y.1 v.1 - 1) : Nat) : Int) = S + (k : Int) := by
    rw [show min (k + 1) (stepsN y.1 v.1 - 1) = k by omega]
   have e3 : (⟨if k = 0 then i else S + (k : Int) - 1, to, y.1[k]?.getD 0, v.1[k]?.getD 0, if k = 0 then w else 0⟩ : S40) = arcN i S to w y.1 v.1 k := by simp [arcN, h1]
   rw [hFr, hSt, decide_eq_false (by omega), cnd_false, happ, bnd_some', hwk, e3]
 ·have e1 : (if stepsN y.1 v.1 = 0 then i else if stepsN y.1 v.1 < stepsN y.1 v.1 then S + ((stepsN y.1 v.1 : Nat) : Int) - 1 else to) = to := by rw [if_neg (by omega), if_neg (by omega)]
  have e2 : (if stepsN y.1 v.1 = 0 then w else 0) = 0 := if_neg (by omega)
  have e3 : S + ((min (stepsN y.1 v.1) (stepsN y.1 v.1 - 1) : Nat) : Int) = S + (stepsN y.1 v.1 : Int) - 1 := by
   rw [show min (stepsN y.1 v.1) (stepsN y.1 v.1 - 1) = stepsN y.1 v.1 - 1 by omega]
   have : ((stepsN y.1 v.1 - 1 : Nat) : Int) = (stepsN y.1 v.1 : Int) - 1 := by omega
   omega
  show f4_B5 m y v to (if stepsN y.1 v.1 = 0 then i else if stepsN y.1 v.1 < stepsN y.1 v.1 then S + ((stepsN y.1 v.1 : Nat) : Int) - 1 else to) (if stepsN y.1 v.1 = 0 then w else 0) (stepsN y.1 v.1 : Int) (S + ((min (stepsN y.1 v.1) (stepsN y.1 v.1 - 1) : Nat) : Int)) (A ++ (arcsN i S to w y.1 v.1).take (stepsN y.1 v.1)) = _
  rw [e1, e2, e3, List.take_of_length_le (by rw [arcsN_len]; exact Nat.le_refl _)]
  unfold f4_B5
  rw [steps_if, decide_eq_false (by omega), cnd_false]
theorem f6_arcs (m : Nat) (a0 : S23) (i S to : Int) (x : S34) (y : (List Int) × Int) (v : (List Int) × S29) (A : List S40) (hto : to = if x.fNext ≥ 0 then x.fNext else (a0.fClasses.length : Int)) (hi : 0 ≤ i) (hS : 0 ≤ S) (hSb : S ≤ 1000000) (hA : A.length ≤ 1000000) (hy : y.1.length ≤ 1000) (hv : v.1.length ≤ 1000) (hm : 2000 ≤ m) :
  iter (fun (z : Int × (List S40)) => f6_B10 m a0 i S x y v (stepsN y.1 v.1 : Int) z.1 z.2) m (0, A) = some (.inr ((stepsN y.1 v.1 : Int), A ++ arcsN i S to x.fWeight y.1 v.1)) := by
 have hn1 : 1 ≤ stepsN y.1 v.1 := by unfold stepsN; omega
 have hn2 : stepsN y.1 v.1 ≤ 1000 := by unfold stepsN; omega
 refine iter_at (fun (z : Int × (List S40)) => f6_B10 m a0 i S x y v (stepsN y.1 v.1 : Int) z.1 z.2) (fun k => ((k : Int), A ++ (arcsN i S to x.fWeight y.1 v.1).take k)) (stepsN y.1 v.1) ?_ (fun k hk => ?_) ?_ (by omega)
 ·simp
 ·show f6_B10 m a0 i S x y v (stepsN y.1 v.1 : Int) (k : Int) (A ++ (arcsN i S to x.fWeight y.1 v.1).take k) = _
  have hwk := w64_nat k (by omega)
  have hlen : (A ++ (arcsN i S to x.fWeight y.1 v.1).take k).length ≤ 1001000 := by rw [List.length_append, List.length_take]; omega
  have hwn : w64 ((stepsN y.1 v.1 : Int) - 1) = ((stepsN y.1 v.1 - 1 : Nat) : Int) := by rw [w64_id ⟨by omega, by omega⟩]; omega
  have hwS : w64 (S + (k : Int)) = S + (k : Int) := w64_id ⟨by omega, by omega⟩
  have hwS1 : w64 (S + (k : Int) - 1) = S + (k : Int) - 1 := w64_id ⟨by omega, by omega⟩
  have happ : ∀ e : S40, app 40 (A ++ (arcsN i S to x.fWeight y.1 v.1).take k) [e] = some (A ++ (arcsN i S to x.fWeight y.1 v.1).take k ++ [e]) := fun e => app_some 40 _ _ (by simp only [List.length_singleton]; omega) (by simp only [List.length_singleton]; omega)
  have e9 : f6_B10 m a0 i S x y v (stepsN y.1 v.1 : Int) (k : Int) (A ++ (arcsN i S to x.fWeight y.1 v.1).take k) = f6_j9 m i S x y v (stepsN y.1 v.1 : Int) (k : Int) (A ++ (arcsN i S to x.fWeight y.1 v.1).take k) to := by
   unfold f6_B10
   rw [decide_eq_true (by omega), cnd_true, hto]
   by_cases h : x.fNext ≥ 0
   ·rw [decide_eq_true h, cnd_true, if_pos h]
   ·rw [decide_eq_false h, cnd_false, if_neg h]
  have e8 : f6_j9 m i S x y v (stepsN y.1 v.1 : Int) (k : Int) (A ++ (arcsN i S to x.fWeight y.1 v.1).take k) to = f6_j8 m S y v (stepsN y.1 v.1 : Int) (k : Int) (A ++ (arcsN i S to x.fWeight y.1 v.1).take k) to (if k = 0 then i else S + k - 1) (if k = 0 then x.fWeight else 0) := by
   unfold f6_j9
   by_cases h : k = 0
   ·rw [decide_eq_false (by omega), cnd_false, if_pos h, if_pos h]
   ·rw [decide_eq_true (by omega), cnd_true, if_neg h, if_neg h, hwS, hwS1]
  have e7 : ∀ F W : Int, f6_j8 m S y v (stepsN y.1 v.1 : Int) (k : Int) (A ++ (arcsN i S to x.fWeight y.1 v.1).take k) to F W = f6_j7 m y v (k : Int) (A ++ (arcsN i S to x.fWeight y.1 v.1).take k) F W (if k + 1 < stepsN y.1 v.1 then S + k else to) := by
   intro F W
   unfold f6_j8
   rw [hwn, hwS]
   by_cases h : k + 1 < stepsN y.1 v.1
   ·rw [decide_eq_true (by omega), cnd_true, if_pos h]
   ·rw [decide_eq_false (by omega), cnd_false, if_neg h]
  rw [e9, e8, e7]
  unfold f6_j7
  rw [get_or (K := fun a => f6_j6 m v _ _ _ _ _ a)]
  unfold f6_j6
  rw [get_or (K := fun a => f6_j5 m _ _ _ _ _ _ a)]
  unfold f6_j5
  rw [happ, bnd_some', hwk, take_snoc (arcsN_get hk), ← List.append_assoc]
  rfl
 ·show f6_B10 m a0 i S x y v (stepsN y.1 v.1 : Int) (stepsN y.1 v.1 : Int) _ = _
  unfold f6_B10
  rw [decide_eq_false (by omega), cnd_false, List.take_of_length_le (by rw [arcsN_len]; exact Nat.le_refl _)]
end Go.Abs
