import Derived.Test.YtckocapmogfhkaaDoorCP2
namespace Go.Abs
open Go.Sort Go.Proofs
set_option linter.unusedVariables false
set_option maxRecDepth 100000
theorem iter_to {R A : Type} (B : A → Option (Stp R A)) (st : Nat → A) (a : A) : ∀ (m n i : Nat), (∀ j, i ≤ j → j < i + n → B (st j) = some (.nxt (st (j + 1)))) → B (st (i + n)) = some (.brk a) → n < m → iter B m (st i) = some (.inr a)
 | 0, n, i, _, _, h => by omega
 | m + 1, 0, i, _, hb, _ => by
  unfold iter
  rw [show B (st i) = some (.brk a) from hb]
 | m + 1, n + 1, i, hn, hb, h => by
  unfold iter
  rw [hn i (Nat.le_refl _) (by omega)]
  exact iter_to B st a m n (i + 1) (fun j h1 h2 => hn j (by omega) (by omega)) (by rw [show i + 1 + n = i + (n + 1) by omega]; exact hb) (by omega)
theorem iter_at {R A : Type} (B : A → Option (Stp R A)) (st : Nat → A) {a0 a : A} {m : Nat} (n : Nat) (h0 : a0 = st 0) (hn : ∀ j, j < n → B (st j) = some (.nxt (st (j + 1)))) (hb : B (st n) = some (.brk a)) (hm : n < m) : iter B m a0 = some (.inr a) := by
 subst h0
 exact iter_to B st a m n 0 (fun j _ h => hn j (by omega)) (by rw [Nat.zero_add]; exact hb) hm
theorem iter_out {R A : Type} (B : A → Option (Stp R A)) (st : Nat → A) (P : Nat → Prop) (hP : ∀ i j, i ≤ j → P i → P j) (r : R) (a : A) : ∀ (m n i : Nat), ¬ P i → (∀ j, i ≤ j → j < i + n → ¬ P j → (P (j + 1) → B (st j) = some (.ret r)) ∧ (¬ P (j + 1) → B (st j) = some (.nxt (st (j + 1))))) →
  (¬ P (i + n) → B (st (i + n)) = some (.brk a)) → n < m → (P (i + n) → iter B m (st i) = some (.inl r)) ∧ (¬ P (i + n) → iter B m (st i) = some (.inr a))
 | 0, n, i, _, _, _, h => by omega
 | m + 1, 0, i, hi, _, hb, _ => by
  refine ⟨fun h => absurd h hi, fun h => ?_⟩
  unfold iter
  rw [show B (st i) = some (.brk a) from hb h]
 | m + 1, n + 1, i, hi, hn, hb, h => by
  obtain ⟨h1, h2⟩ := hn i (Nat.le_refl _) (by omega) hi
  have e : i + 1 + n = i + (n + 1) := by omega
  by_cases hp : P (i + 1)
  ·refine ⟨fun _ => ?_, fun g => absurd (hP (i + 1) _ (by omega) hp) g⟩
   unfold iter
   rw [h1 hp]
  ·have ih := iter_out B st P hP r a m n (i + 1) hp (fun j g1 g2 g3 => hn j (by omega) (by omega) g3) (by rw [e]; exact hb) (by omega)
   rw [e] at ih
   constructor
   ·intro g
    unfold iter
    rw [h2 hp]
    exact ih.1 g
   ·intro g
    unfold iter
    rw [h2 hp]
    exact ih.2 g
theorem take_snoc {α : Type} {l : List α} {i : Nat} {x : α} (h : l[i]? = some x) : l.take (i + 1) = l.take i ++ [x] := by
 rw [List.take_add_one, h]; rfl
theorem w64_nat (n : Nat) (h : n ≤ 1000000000) : w64 ((n : Int) + 1) = ((n + 1 : Nat) : Int) := by
 rw [w64_id ⟨by omega, by omega⟩]; omega
def tagsI (xs : List S34) : List ByteArray := xs.flatMap (·.fTags)
def tagsC (l : List S37) : List ByteArray := l.flatMap fun c => tagsI c.fItems
def tagsL (l : List S37) : List ByteArray := compactS (sortS (tagsC l))
theorem itemBad_tags {n : Nat} {x : S34} (h : itemBad n x = 0) : x.fTags.length ≤ 4 := by
 unfold itemBad at h
 split at h
 ·simp at h
 ·split at h
  ·simp at h
  ·omega
theorem tagsI_len {n : Nat} : ∀ (xs : List S34), (∀ x ∈ xs, itemBad n x = 0) → (tagsI xs).length ≤ 4 * xs.length
 | [], _ => by simp [tagsI]
 | x :: r, h => by
  have h1 := itemBad_tags (h x List.mem_cons_self)
  have h2 := tagsI_len r fun y hy => h y (List.mem_cons_of_mem _ hy)
  simp only [tagsI, List.flatMap_cons, List.length_append, List.length_cons] at h2 ⊢
  omega
theorem tagsI_snoc (xs : List S34) (x : S34) : tagsI (xs ++ [x]) = tagsI xs ++ x.fTags := by simp [tagsI]
theorem tagsC_snoc (l : List S37) (c : S37) : tagsC (l ++ [c]) = tagsC l ++ tagsI c.fItems := by simp [tagsC]
theorem tagsC_len {n : Nat} : ∀ (l : List S37), (∀ c ∈ l, c.fItems.length ≤ 100) → (∀ c ∈ l, ∀ x ∈ c.fItems, itemBad n x = 0) → (tagsC l).length ≤ 400 * l.length
 | [], _, _ => by simp [tagsC]
 | c :: r, h1, h2 => by
  have g1 := tagsI_len c.fItems (h2 c List.mem_cons_self)
  have g2 := h1 c List.mem_cons_self
  have g3 := tagsC_len r (fun y hy => h1 y (List.mem_cons_of_mem _ hy)) fun y hy => h2 y (List.mem_cons_of_mem _ hy)
  simp only [tagsC, List.flatMap_cons, List.length_append, List.length_cons] at g3 ⊢
  omega
theorem mem_take {α : Type} {l : List α} {n : Nat} {x : α} (h : x ∈ l.take n) : x ∈ l := List.mem_of_mem_take h
theorem f8_items (m : Nat) (c : S37) (acc : List ByteArray) {n : Nat} (hc : c.fItems.length ≤ 100) (hx : ∀ x ∈ c.fItems, itemBad n x = 0) (ha : acc.length ≤ 100000) (hm : 4001 < m) :
  iter (fun (y : (List ByteArray) × Int) => f8_B1 m c y.1 y.2) m (acc, 0) = some (.inr (acc ++ tagsI c.fItems, (c.fItems.length : Int))) := by
 refine iter_at (fun (y : (List ByteArray) × Int) => f8_B1 m c y.1 y.2) (fun i => (acc ++ tagsI (c.fItems.take i), (i : Int))) c.fItems.length ?_ (fun j hj => ?_) ?_ (by omega)
 ·simp [tagsI]
 ·obtain ⟨x, hxj⟩ : ∃ x, c.fItems[j]? = some x := ⟨_, List.getElem?_eq_getElem (by omega)⟩
  have hl := tagsI_len (n := n) (c.fItems.take j) fun x hx' => hx x (mem_take hx')
  have h4 := itemBad_tags (hx x (List.mem_of_getElem? hxj))
  rw [List.length_take] at hl
  show f8_B1 m c (acc ++ tagsI (c.fItems.take j)) (j : Int) = _
  unfold f8_B1
  rw [decide_eq_true (by omega), cnd_true, idx_get, hxj, bnd_some', app_some 16 _ _ (by rw [List.length_append]; omega) (by rw [List.length_append]; omega), bnd_some', w64_nat j (by omega), take_snoc hxj, tagsI_snoc, List.append_assoc]
 ·show f8_B1 m c (acc ++ tagsI (c.fItems.take c.fItems.length)) (c.fItems.length : Int) = _
  unfold f8_B1
  rw [decide_eq_false (by omega), cnd_false, List.take_length]
theorem f8_eq (m : Nat) (a0 : S23) (ho : OkL a0.fClasses) (hm : 4001 < m) : f8 m a0 = some (tagsL a0.fClasses) := by
 have hlen := tagsC_len a0.fClasses ho.items ho.item
 have hl := ho.len
 have e : iter (fun (y : (List ByteArray) × Int) => f8_B2 m a0 y.1 y.2) m ([], 0) = some (.inr (tagsC a0.fClasses, (a0.fClasses.length : Int))) := by
  refine iter_at (fun (y : (List ByteArray) × Int) => f8_B2 m a0 y.1 y.2) (fun i => (tagsC (a0.fClasses.take i), (i : Int))) a0.fClasses.length ?_ (fun j hj => ?_) ?_ (by omega)
  ·simp [tagsC]
  ·obtain ⟨c, hcj⟩ : ∃ x, a0.fClasses[j]? = some x := ⟨_, List.getElem?_eq_getElem (by omega)⟩
   have hmem := List.mem_of_getElem? hcj
   have hl2 := tagsC_len (a0.fClasses.take j) (fun c hc => ho.items c (mem_take hc)) (fun c hc => ho.item c (mem_take hc))
   rw [List.length_take] at hl2
   show f8_B2 m a0 (tagsC (a0.fClasses.take j)) (j : Int) = _
   unfold f8_B2
   rw [decide_eq_true (by omega), cnd_true, idx_get, hcj, bnd_some', f8_items m c _ (ho.items c hmem) (ho.item c hmem) (by omega) hm, brk_inr, w64_nat j (by omega), take_snoc hcj, tagsC_snoc]
  ·show f8_B2 m a0 (tagsC (a0.fClasses.take a0.fClasses.length)) (a0.fClasses.length : Int) = _
   unfold f8_B2
   rw [decide_eq_false (by omega), cnd_false, List.take_length]
 unfold f8
 rw [e, brk_inr]
 simp only [srt]
 rw [if_pos (by omega), bnd_some']
 rfl
def tagsR (l : List ByteArray) (out : List ByteArray) : List ByteArray := l.foldl (fun o t => insS t o) out
theorem tagsR_app (a b out : List ByteArray) : tagsR (a ++ b) out = tagsR b (tagsR a out) := List.foldl_append ..
theorem tagsR_len : ∀ (l out : List ByteArray), (tagsR l out).length ≤ out.length + l.length
 | [], out => Nat.le_refl _
 | t :: r, out => by
  have h1 := insS_len t out
  have h2 := tagsR_len r (insS t out)
  simp only [tagsR, List.foldl_cons, List.length_cons] at h2 ⊢
  omega
theorem tagsR_spec (l : List ByteArray) : SS (tagsR l []) ∧ ∀ x, x ∈ tagsR l [] ↔ x ∈ l := by
 have h := foldl_mem (Good := SS) (C := fun t x => x = t) (f := fun o t => insS t o) l [] (fun s y _ hs => insS_spec y s hs) List.Pairwise.nil
 refine ⟨h.1, fun x => (h.2 x).trans ?_⟩
 simp
theorem tagsL_R (l : List S37) : tagsL l = tagsR (tagsC l) [] := ss_ext (setS_spec _).1 (tagsR_spec _).1 fun x => ((setS_spec _).2 x).trans ((tagsR_spec _).2 x).symm
theorem f16_at (m : Nat) (out : List ByteArray) (b : ByteArray) (ho : out.length ≤ 1000000) : ∀ (K k : Nat), k ≤ out.length → out.length - k < K →
  iter (fun (y : Int) => f16_B3 m out b y) K (k : Int) = some (.inr (((k + atS b (out.drop k) : Nat)) : Int))
 | 0, k, h1, h2 => by omega
 | K + 1, k, h1, h2 => by
  unfold iter
  rcases Nat.lt_or_ge k out.length with hlt | hge
  ·have hd := List.drop_eq_getElem_cons hlt
   have hx : idx out (k : Int) = some out[k] := by rw [idx_get, List.getElem?_eq_getElem hlt]
   have e0 : f16_B3 m out b (k : Int) = if lessS out[k] b then some (.nxt (((k + 1 : Nat)) : Int)) else some (.brk (k : Int)) := by
    unfold f16_B3
    have hw : w64 ((k : Int) + 1) = ((k + 1 : Nat) : Int) := by rw [w64_id ⟨by omega, by omega⟩]; omega
    rw [decide_eq_true (by omega), hx]
    simp only [cnd_true, bnd_some', less_eq, f16_r2, hw]
    cases lessS out[k] b <;> rfl
   rw [hd]
   simp only [e0, atS]
   by_cases hl : lessS out[k] b = true
   ·simp only [hl, if_true]
    rw [f16_at m out b ho K (k + 1) hlt (by omega), show k + (atS b (out.drop (k + 1)) + 1) = k + 1 + atS b (out.drop (k + 1)) by omega]
   ·simp only [hl, Bool.false_eq_true, if_false]; rfl
  ·have hk : k = out.length := by omega
   have e0 : f16_B3 m out b (k : Int) = some (.brk (k : Int)) := by
    unfold f16_B3
    rw [decide_eq_false (by omega)]
    rfl
   have hd : out.drop k = [] := List.drop_eq_nil_iff.2 (by omega)
   simp only [e0, hd, atS]; rfl
theorem f16_put (m : Nat) (out : List ByteArray) (k : Nat) (b : ByteArray) (ho : out.length ≤ 1000000) (hk : k ≤ 1000000) :
  (bnd (cnd (((atS b out : Nat) : Int) == ((out.length : Int))) (some true) (bnd (idx out ((atS b out : Nat) : Int)) fun v1049 => some (!(v1049.toList == b.toList)))) fun v1038 => f16_r5 m out (k : Int) b ((atS b out : Nat) : Int) v1038) = some (.nxt (insS b out, ((k + 1 : Nat) : Int))) := by
 have hle := atS_le b out
 have hw : w64 ((k : Int) + 1) = ((k + 1 : Nat) : Int) := w64_nat k (by omega)
 have put : f16_r5 m out (k : Int) b ((atS b out : Nat) : Int) true = some (.nxt (out.take (atS b out) ++ [b] ++ out.drop (atS b out), ((k + 1 : Nat) : Int))) := by
  unfold f16_r5
  have s1 : sub out 0 ((atS b out : Nat) : Int) = some (out.take (atS b out)) := by
   unfold sub
   rw [if_pos ⟨by omega, by omega, by omega⟩]
   simp
  have s2 : sub out ((atS b out : Nat) : Int) (out.length : Int) = some (out.drop (atS b out)) := by
   unfold sub
   rw [if_pos ⟨by omega, by omega, by omega⟩]
   simp only [Int.toNat_natCast]
   rw [List.take_of_length_le (by rw [List.length_drop]; omega)]
  rw [cnd_true, s1]
  simp only [bnd_some']
  rw [app_some 16 [] _ (by simp only [List.length_nil, List.length_take]; omega) (by simp only [List.length_nil, List.length_take]; omega)]
  simp only [bnd_some', List.nil_append]
  rw [app_some 16 _ [b] (by simp only [List.length_cons, List.length_nil, List.length_take]; omega) (by simp only [List.length_cons, List.length_nil, List.length_take]; omega), s2]
  simp only [bnd_some']
  rw [app_some 16 _ _ (by simp only [List.length_append, List.length_cons, List.length_nil, List.length_take, List.length_drop]; omega) (by simp only [List.length_append, List.length_cons, List.length_nil, List.length_take, List.length_drop]; omega)]
  simp only [bnd_some', f16_j4, f16_j1, hw]
 unfold insS
 by_cases he : atS b out = out.length
 ·have hb : (((atS b out : Nat) : Int) == ((out.length : Int))) = true := by simp [he]
  rw [hb, if_pos (.inl he)]
  exact put
 ·have hb : (((atS b out : Nat) : Int) == ((out.length : Int))) = false := by simp; omega
  have hx : idx out ((atS b out : Nat) : Int) = some out[atS b out] := by rw [idx_get, List.getElem?_eq_getElem (by omega)]
  rw [hb, hx, cnd_false]
  simp only [bnd_some', tl_eq]
  by_cases hq : out[atS b out] = b
  ·rw [decide_eq_true hq, if_neg]
   ·simp only [Bool.not_true, f16_r5, cnd_false, f16_j4, f16_j1, hw]
   ·rintro (h | h)
    ·exact he h
    ·exact h (by rw [List.getElem?_eq_getElem (by omega), hq])
  ·rw [decide_eq_false hq, if_pos (.inr (by rw [List.getElem?_eq_getElem (by omega)]; simpa using hq))]
   exact put
theorem f16_tags (m : Nat) (x : S34) (out : List ByteArray) (hx : x.fTags.length ≤ 4) (ho : out.length ≤ 100000) (hm : 200000 ≤ m) :
  iter (fun (y : (List ByteArray) × Int) => f16_B6 m x y.1 y.2) m (out, 0) = some (.inr (tagsR x.fTags out, (x.fTags.length : Int))) := by
 refine iter_at (fun (y : (List ByteArray) × Int) => f16_B6 m x y.1 y.2) (fun i => (tagsR (x.fTags.take i) out, (i : Int))) x.fTags.length ?_ (fun j hj => ?_) ?_ (by omega)
 ·rfl
 ·obtain ⟨t, ht⟩ : ∃ t, x.fTags[j]? = some t := ⟨_, List.getElem?_eq_getElem (by omega)⟩
  have hl := tagsR_len (x.fTags.take j) out
  rw [List.length_take] at hl
  show f16_B6 m x (tagsR (x.fTags.take j) out) (j : Int) = _
  unfold f16_B6
  have ha := f16_at m (tagsR (x.fTags.take j) out) t (by omega) m 0 (Nat.zero_le _) (by omega)
  rw [Nat.zero_add, List.drop_zero] at ha
  have ha' : iter (fun (y : Int) => f16_B3 m (tagsR (x.fTags.take j) out) t y) m 0 = _ := ha
  rw [decide_eq_true (by omega), cnd_true, idx_get, ht, bnd_some', ha', brk_inr, f16_put m _ j t (by omega) (by omega), take_snoc ht, tagsR_app]
  rfl
 ·show f16_B6 m x (tagsR (x.fTags.take x.fTags.length) out) (x.fTags.length : Int) = _
  unfold f16_B6
  rw [decide_eq_false (by omega), cnd_false, List.take_length]
theorem f16_items (m : Nat) (c : S37) (out : List ByteArray) {n : Nat} (hc : c.fItems.length ≤ 100) (hx : ∀ x ∈ c.fItems, itemBad n x = 0) (ho : out.length ≤ 50000) (hm : 200000 ≤ m) :
  iter (fun (y : (List ByteArray) × Int) => f16_B7 m c y.1 y.2) m (out, 0) = some (.inr (tagsR (tagsI c.fItems) out, (c.fItems.length : Int))) := by
 refine iter_at (fun (y : (List ByteArray) × Int) => f16_B7 m c y.1 y.2) (fun i => (tagsR (tagsI (c.fItems.take i)) out, (i : Int))) c.fItems.length ?_ (fun j hj => ?_) ?_ (by omega)
 ·rfl
 ·obtain ⟨x, hxj⟩ : ∃ t, c.fItems[j]? = some t := ⟨_, List.getElem?_eq_getElem (by omega)⟩
  have hl := tagsR_len (tagsI (c.fItems.take j)) out
  have hl2 := tagsI_len (n := n) (c.fItems.take j) fun x hx' => hx x (mem_take hx')
  rw [List.length_take] at hl2
  show f16_B7 m c (tagsR (tagsI (c.fItems.take j)) out) (j : Int) = _
  unfold f16_B7
  rw [decide_eq_true (by omega), cnd_true, idx_get, hxj, bnd_some', f16_tags m x _ (itemBad_tags (hx x (List.mem_of_getElem? hxj))) (by omega) hm, brk_inr, w64_nat j (by omega), take_snoc hxj, tagsI_snoc, tagsR_app]
 ·show f16_B7 m c (tagsR (tagsI (c.fItems.take c.fItems.length)) out) (c.fItems.length : Int) = _
  unfold f16_B7
  rw [decide_eq_false (by omega), cnd_false, List.take_length]
theorem f16_eq (m : Nat) (a0 : S23) (ho : OkL a0.fClasses) (hm : 200000 ≤ m) : f16 m a0 = some (tagsL a0.fClasses) := by
 have hlen := tagsC_len a0.fClasses ho.items ho.item
 have hl := ho.len
 have e : iter (fun (y : (List ByteArray) × Int) => f16_B8 m a0 y.1 y.2) m ([], 0) = some (.inr (tagsR (tagsC a0.fClasses) [], (a0.fClasses.length : Int))) := by
  refine iter_at (fun (y : (List ByteArray) × Int) => f16_B8 m a0 y.1 y.2) (fun i => (tagsR (tagsC (a0.fClasses.take i)) [], (i : Int))) a0.fClasses.length ?_ (fun j hj => ?_) ?_ (by omega)
  ·rfl
  ·obtain ⟨c, hcj⟩ : ∃ x, a0.fClasses[j]? = some x := ⟨_, List.getElem?_eq_getElem (by omega)⟩
   have hmem := List.mem_of_getElem? hcj
   have hl1 := tagsR_len (tagsC (a0.fClasses.take j)) []
   have hl2 := tagsC_len (a0.fClasses.take j) (fun c hc => ho.items c (mem_take hc)) (fun c hc => ho.item c (mem_take hc))
   rw [List.length_take] at hl2
   simp only [List.length_nil] at hl1
   show f16_B8 m a0 (tagsR (tagsC (a0.fClasses.take j)) []) (j : Int) = _
   unfold f16_B8
   rw [decide_eq_true (by omega), cnd_true, idx_get, hcj, bnd_some', f16_items m c _ (ho.items c hmem) (ho.item c hmem) (by omega) hm, brk_inr, w64_nat j (by omega), take_snoc hcj, tagsC_snoc, tagsR_app]
  ·show f16_B8 m a0 (tagsR (tagsC (a0.fClasses.take a0.fClasses.length)) []) (a0.fClasses.length : Int) = _
   unfold f16_B8
   rw [decide_eq_false (by omega), cnd_false, List.take_length]
 unfold f16
 rw [e, brk_inr, tagsL_R]
end Go.Abs
