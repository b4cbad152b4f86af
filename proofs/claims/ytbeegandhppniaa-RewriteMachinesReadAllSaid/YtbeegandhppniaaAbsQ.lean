import Derived.Test.YtbeegandhppniaaAbsP
namespace Go.Abs
set_option linter.unusedVariables false
set_option linter.unusedSimpArgs false
set_option linter.unnecessarySimpa false
variable {DR : Prop}
theorem zip_range {α : Type} : ∀ (l : List (Nat × α)) (n m : Nat), l.map (·.1) = List.range' m n → l = ((l.map (·.2)).zipIdx m).map fun x => (x.2, x.1)
 | [], n, m, h => by simp
 | (i, a) :: r, n, m, h => by
  cases n with
  | zero => simp at h
  | succ n =>
   simp only [List.map_cons, List.range'_succ, List.cons.injEq] at h
   obtain ⟨rfl, h⟩ := h
   simp only [List.map_cons, List.zipIdx_cons, List.cons.injEq, true_and]
   exact zip_range r n (i + 1) h
theorem div_mul_add {i j k : Nat} (hj : j < k) : (i * k + j) / k = i := Nat.div_eq_of_lt_le (by omega) (by rw [Nat.add_mul]; omega)
theorem mod_mul_add {i j k : Nat} (hj : j < k) : (i * k + j) % k = j := by
 rw [Nat.add_comm, Nat.mul_comm, Nat.add_mul_mod_self_left, Nat.mod_eq_of_lt hj]
structure Laid (S : Nat → Nat → Prop) (w : World) (k : Nat) (xs : List V) (news : List Value) : Prop where
 len : news.length = xs.length * k
 one : ∀ u ∈ news, u.oneCell' = true
 rel : ∀ (i j : Nat) (x y : V) (u : Value), xs[i]? = some x → x.cells[j]? = some y → news[i * k + j]? = some u → RelV S w u y
def Solid (k : Nat) (xs : List V) : Prop := ∀ (i : Nat) (x : V), xs[i]? = some x → x.solid = true ∧ x.cells.length = k
theorem solid_cells {x y : V} (h : x.solid = true) (hy : y ∈ x.cells) : y.scalar = true := by
 cases x with
 | agg cs => simp only [V.solid, List.all_eq_true] at h; exact h y hy
 | tuple cs => simp [V.solid] at h
 | _ => simp [V.cells] at hy; subst hy; rfl
theorem solid_of_all {k : Nat} {xs : List V} (h : xs.all (fun d => d.solid && d.cells.length == k) = true) : Solid k xs := by
 intro i x hx
 have := List.all_eq_true.1 h x (List.mem_of_getElem? hx)
 rw [Bool.and_eq_true, beq_iff_eq] at this
 exact this
theorem Laid.mono {S S' : Nat → Nat → Prop} {w w' : World} {k : Nat} {xs : List V} {news : List Value} (hk : Keeps S w S' w') (h : Laid S w k xs news) : Laid S' w' k xs news :=
 ⟨h.len, h.one, fun i j x y u h1 h2 h3 => (h.rel i j x y u h1 h2 h3).mono hk⟩
theorem Laid.append {S : Nat → Nat → Prop} {w : World} {k : Nat} {xs ys : List V} {a b : List Value} (hs : Solid k ys) (hx : Solid k xs) (h : Laid S w k xs a) (g : Laid S w k ys b) : Laid S w k (xs ++ ys) (a ++ b) := by
 refine ⟨by simp [h.len, g.len, Nat.add_mul], fun u hu => ?_, fun i j x y u h1 h2 h3 => ?_⟩
 ·rcases List.mem_append.1 hu with hu | hu
  ·exact h.one u hu
  ·exact g.one u hu
 ·have hj := lt_of_getElem? h2
  by_cases hi : i < xs.length
  ·rw [List.getElem?_append_left hi] at h1
   have hjk : j < k := by have := (hx i x h1).2; omega
   have := mul_lt_of (k := k) hi hjk
   rw [List.getElem?_append_left (by rw [h.len]; exact this)] at h3
   exact h.rel i j x y u h1 h2 h3
  ·rw [List.getElem?_append_right (by omega)] at h1
   have hle : xs.length * k ≤ i * k := Nat.mul_le_mul_right _ (by omega)
   rw [List.getElem?_append_right (by rw [h.len]; omega), h.len] at h3
   have e : i * k + j - xs.length * k = (i - xs.length) * k + j := by rw [Nat.sub_mul]; omega
   rw [e] at h3
   exact g.rel _ j x y u h1 h2 h3
theorem Solid.append {k : Nat} {xs ys : List V} (h : Solid k xs) (g : Solid k ys) : Solid k (xs ++ ys) := by
 intro i x hx
 rw [List.getElem?_append] at hx
 split at hx
 ·exact h i x hx
 ·exact g _ x hx
theorem Solid.take_drop {k : Nat} {xs : List V} (h : Solid k xs) (off len : Nat) : Solid k ((xs.drop off).take len) := by
 intro i x hx
 rw [List.getElem?_take] at hx
 split at hx
 ·rw [List.getElem?_drop] at hx; exact h _ x hx
 ·cases hx
theorem Laid.of_values {S : Nat → Nat → Prop} {w : World} {k : Nat} (hk : 0 < k) {xs : List V} {vs : List Value} (hs : Solid k xs) (hl : vs.length = xs.length) (hr : ∀ (i : Nat) v x, vs[i]? = some v → xs[i]? = some x → RelV S w v x) :
  (∀ v ∈ vs, v.cells.size = k) ∧ Laid S w k xs (vs.flatMap fun v => v.cells.toList) := by
 have h1 : ∀ v ∈ vs, v.cells.size = k := by
  intro v hv
  obtain ⟨i, hi⟩ := List.getElem?_of_mem hv
  have hx := List.getElem?_eq_getElem (l := xs) (i := i) (by have := lt_of_getElem? hi; omega)
  obtain ⟨s1, s2⟩ := hs i _ hx
  rw [((hr i v _ hi hx).cells s1).1, s2]
 refine ⟨h1, ?_, fun u hu => ?_, fun i j x y u g1 g2 g3 => ?_⟩
 ·have : ∀ l : List Value, (∀ v ∈ l, v.cells.size = k) → (l.flatMap fun v => v.cells.toList).length = l.length * k := by
   intro l
   induction l with
   | nil => intro _; simp
   | cons v r ih =>
    intro hv
    have h0 := hv v List.mem_cons_self
    rw [List.flatMap_cons, List.length_append, ih (fun u hu => hv u (List.mem_cons_of_mem _ hu)), List.length_cons, Nat.add_mul]
    simp [h0]; omega
  rw [this vs h1, hl]
 ·obtain ⟨v, hv, huv⟩ := List.mem_flatMap.1 hu
  obtain ⟨i, hi⟩ := List.getElem?_of_mem hv
  have hx := List.getElem?_eq_getElem (l := xs) (i := i) (by have := lt_of_getElem? hi; omega)
  exact (hr i v _ hi hx).cells_one (hs i _ hx).1 u huv
 ·obtain ⟨s1, s2⟩ := hs i x g1
  have hj : j < k := by have := lt_of_getElem? g2; omega
  have hi := lt_of_getElem? g1
  rw [Great.flat_get hk vs h1, div_mul_add hj, mod_mul_add hj] at g3
  obtain ⟨v, hv, hu⟩ := Option.bind_eq_some_iff.1 g3
  exact ((hr i v x hv g1).cells s1).2 j u y hu g2
theorem rel_sl_of {S : Nat → Nat → Prop} {w : World} {k b cap : Nat} {xs : List V} {cur : Array Value} {e : TypeId} {fr : Nat × Nat} (fl : SFlag) (hfl : fl.isNil ≠ some true) (hs : Solid k xs) (hg : w.heap[b]? = some (.cells cur e fr))
  (hS : ∀ i, i < xs.length * k → S b i) (hc : xs.length ≤ cap) (hf : fl.isFull = true → cap = xs.length) (hm : cap ≤ maxLen) (hsz : xs.length * k ≤ cur.size)
  (hr : ∀ (i j : Nat) (x y : V) (u : Value), xs[i]? = some x → x.cells[j]? = some y → cur[i * k + j]? = some u → RelV S w u y) : RelV S w (.slice (some ⟨b, 0, none⟩) xs.length cap) (.sl fl xs) := by
 have hin : ∀ i j : Nat, i < xs.length → j < k → i * k + j < cur.size := fun i j hi hj => by have := mul_lt_of (k := k) hi hj; omega
 refine .sl fl b 0 cap k xs.length xs (fun q => cur.getD q undef) rfl hfl hf hc hm hs (fun i j hi hj => ⟨hS _ (by have := mul_lt_of (k := k) hi hj; omega), ?_⟩) (fun i j x c hx hy => ?_)
 ·have := hin i j hi hj
  rw [cell_of_row w b _ cur e fr hg, Nat.zero_add, Array.getElem?_eq_getElem this]
  simp [Array.getD, this]
 ·have hi := lt_of_getElem? hx
  have hj := lt_of_getElem? hy
  rw [(hs i x hx).2] at hj
  have := hin i j hi hj
  refine hr i j x c _ hx hy ?_
  rw [Array.getElem?_eq_getElem this]
  simp [Array.getD, this]
theorem buildSlice_sound {P : Program} {T : Nat → Option TI} (hT : ∀ t i, T t = some i → tiOf P t = some i) {S : Nat → Nat → Prop} {β : Blocks} {w : World} {h : List AObj} (hi : HInv S β w h) {t e n : Nat} {ti i : TI} (ht : T t = some ti)
  (hk : ti.kind = .slice e) (he : T e = some i) (h0 : 0 < i.size) (hn : n * i.size ≤ 16777216) (parts : Array (Nat × Value)) (hp : parts.toList.map (·.1) = List.range n) {es : List V} (hl : es.length = n)
  (hz : i.zero.cells.length = i.size)
  (hr : ∀ (j : Nat) p x, parts[j]? = some p → es[j]? = some x → RelV S w p.2 x) (hs : es.all (fun d => d.solid && d.cells.length == i.size) = true) :
  ∃ v w' S', (Instr.buildSlice t n parts).run P w = .ok v w' ∧ Ext DR S β w S' β w' ∧ HInv S' β w' h ∧ RelV S' w' v (.sl .nonfull es) := by
 obtain ⟨info, desc, z, g1, g2, g3, g4, g5, g6, g7, g8, _⟩ := tiOf_spec (hT _ _ ht)
 obtain ⟨info', desc', z', k1, k2, k3, k4, k5, k6, k7, k8, _⟩ := tiOf_spec (hT _ _ he)
 rw [hk] at g5
 have := tkOf_slice g5
 subst this
 subst hl
 have hs' := solid_of_all hs
 have hpl : parts.size = es.length := by have := congrArg List.length hp; simpa using this
 cases es with
 | nil =>
  have hp0 : parts = #[] := by simpa using hpl
  subst hp0
  obtain ⟨e1, e2⟩ := pure_alloc (DR := DR) hi (.cells #[] e)
  refine ⟨.slice (some ⟨w.heap.size, 0, none⟩) 0 0, w.alloc (.cells #[] e), _, ?_, e1, e2, .slemp _ _ _ (by decide) (fun _ => rfl) (Nat.zero_le _)⟩
  simp [Instr.buildSlice, run_underlying g2, run_sizeOf k1, newRow, Instr.fill, Array.range_zero']
 | cons x0 er =>
  let es := x0 :: er
  have hlen : (parts.toList.map (·.2)).length = es.length := by simp [hpl, es]
  obtain ⟨l1, l2⟩ := Laid.of_values (S := S) (w := w) h0 (xs := es) (vs := parts.toList.map (·.2)) hs' hlen (fun j v x hv hx => by
   simp only [List.getElem?_map] at hv
   obtain ⟨p, hp', rfl⟩ := Option.map_eq_some_iff.1 hv
   exact hr j p x (by simpa using hp') hx)
  have hfill := Great.fill_whole h0 (parts.toList.map (·.2)) ((Array.range (es.length * i.size)).map (z'.cells[· % z'.cells.size]!)) l1 (by simp [hpl, es])
  rw [← zip_range parts.toList es.length 0 (by rw [hp, List.range_eq_range'])] at hfill
  have hpos : 0 < es.length * i.size := Nat.mul_pos (by simp [es]) h0
  have hrun := run_buildSlice (P := P) w t e es.length parts _ info' z' g2 k1 k3 (by rw [k7]; show ¬ es.length * i.size > 16777216; exact Nat.not_lt.2 hn) (by rw [k7]; omega) (by rw [k7]; exact hfill)
  obtain ⟨e1, e2⟩ := pure_alloc (DR := DR) hi (.cells ((parts.toList.map (·.2)).flatMap fun v => v.cells.toList).toArray e)
  have l3 := l2.mono e1.keeps
  refine ⟨_, _, _, hrun, e1, e2, rel_sl_of .nonfull (by decide) hs' (heap_alloc_new w _) (fun _ _ => .inr rfl) (Nat.le_refl _) (fun _ => rfl) ?_ (by simp [l2.len]) (fun i' j x y u h1 h2 h3 => l3.rel i' j x y u h1 h2 (by simpa using h3))⟩
  have : es.length ≤ 16777216 := Nat.le_trans (Nat.le_mul_of_pos_right _ h0) hn
  unfold maxLen
  omega
theorem buildSliceO_sound {P : Program} {T : Nat → Option TI} (hT : ∀ t i, T t = some i → tiOf P t = some i) {S : Nat → Nat → Prop} {β : Blocks} {w : World} {h : List AObj} (hi : HInv S β w h) {t e n : Nat} {ti i : TI} (ht : T t = some ti)
  (hk : ti.kind = .slice e) (he : T e = some i) (h0 : 0 < i.size) (hn : n * i.size ≤ 16777216) (hn0 : 0 < n) (parts : Array (Nat × Value)) (hp : parts.toList.map (·.1) = List.range n) {es : List V} (hl : es.length = n)
  (hz : i.zero.cells.length = i.size)
  (hr : ∀ (j : Nat) p x, parts[j]? = some p → es[j]? = some x → RelV S w p.2 x) (hs : es.all (fun d => d.solid && d.cells.length == i.size) = true) :
  ∃ v w' β', (Instr.buildSlice t n parts).run P w = .ok v w' ∧ Ext DR S β w S β' w' ∧ HInv S β' w' (h ++ [.row i.size es]) ∧ RelD S β' w' v (.osl h.length 0 n false) := by
 obtain ⟨info, desc, z, g1, g2, g3, g4, g5, g6, g7, g8, _⟩ := tiOf_spec (hT _ _ ht)
 obtain ⟨info', desc', z', k1, k2, k3, k4, k5, k6, k7, k8, _⟩ := tiOf_spec (hT _ _ he)
 rw [hk] at g5
 have := tkOf_slice g5
 subst this
 subst hl
 have hs' := solid_of_all hs
 have hpl : parts.size = es.length := by have := congrArg List.length hp; simpa using this
 have hlen : (parts.toList.map (·.2)).length = es.length := by simp [hpl]
 obtain ⟨l1, l2⟩ := Laid.of_values (S := S) (w := w) h0 (xs := es) (vs := parts.toList.map (·.2)) hs' hlen (fun j v x hv hx => by
  simp only [List.getElem?_map] at hv
  obtain ⟨p, hp', rfl⟩ := Option.map_eq_some_iff.1 hv
  exact hr j p x (by simpa using hp') hx)
 have hfill := Great.fill_whole h0 (parts.toList.map (·.2)) ((Array.range (es.length * i.size)).map (z'.cells[· % z'.cells.size]!)) l1 (by simp [hpl])
 rw [← zip_range parts.toList es.length 0 (by rw [hp, List.range_eq_range'])] at hfill
 have hpos : 0 < es.length * i.size := Nat.mul_pos hn0 h0
 have hrun := run_buildSlice (P := P) w t e es.length parts _ info' z' g2 k1 k3 (by rw [k7]; show ¬ es.length * i.size > 16777216; exact Nat.not_lt.2 hn) (by rw [k7]; omega) (by rw [k7]; exact hfill)
 have hm : es.length ≤ 16777216 := Nat.le_trans (Nat.le_mul_of_pos_right _ h0) hn
 have hkp := keeps_alloc hi (.cells ((parts.toList.map (·.2)).flatMap fun v => v.cells.toList).toArray e) S (fun _ _ h => h)
 have l3 := l2.mono hkp
 obtain ⟨e1, e2⟩ := own_alloc (DR := DR) hi ((parts.toList.map (·.2)).flatMap fun v => v.cells.toList).toArray e es.length i.size (.row i.size es) rfl
  ⟨rfl, h0, by unfold maxLen; omega, Nat.le_refl _, hs', _, e, heap_alloc_new w _, by simp [l2.len], fun i' j x y u h1 h2 h3 => l3.rel i' j x y u h1 h2 (by simpa using h3)⟩
 exact ⟨_, _, _, hrun, e1, e2, .osl _ 0 es.length w.heap.size es.length i.size 0 es.length false (by rw [← hi.len]; simp) (by omega) (by simp) (by simp)⟩
theorem elemsOf_sound {S : Nat → Nat → Prop} {β : Blocks} {w : World} {h : List AObj} (hi : HInv S β w h) {k : Nat} {x : D} {xs : List V} (he : elemsOf k h x = some xs) {v : Value} (hv : RelD S β w v x) :
  Solid k xs ∧ ∃ base c, v = .slice base xs.length c ∧ xs.length ≤ c ∧ c ≤ maxLen ∧ (xs ≠ [] → ∃ a news, base = some a ∧ Laid S w k xs news ∧ ∀ (j : Nat) u, news[j]? = some u → w.cell? (a.add j) = some u) ∧
   (∀ fl es, x = .v (.sl fl es) → fl.isFull = true → c = xs.length ∧ (base = none → c = 0)) := by
 unfold elemsOf at he
 split at he
 ·rename_i fl es
  split at he
  ·rename_i ha
   cases he
   have hv' := hv.of_v
   have hs : Solid k xs := by
    cases hv' with
    | slnil => intro i x hx; simp at hx
    | slemp => intro i x hx; simp at hx
    | sl fl b off cap k' n es vals hn h hf hc hm hk hs' hr =>
     cases xs with
     | nil => intro i x hx; simp at hx
     | cons x0 r =>
      have h0 := (hk 0 x0 rfl).2
      simp only [headOk, beq_iff_eq] at ha
      rw [ha] at h0
      subst h0
      exact hk
   refine ⟨hs, ?_⟩
   cases hv' with
   | slnil fl h => exact ⟨none, 0, rfl, Nat.le_refl _, Nat.zero_le _, fun h => absurd rfl h, fun _ _ he _ => ⟨rfl, fun _ => rfl⟩⟩
   | slemp fl a cap h hf hm => exact ⟨some a, cap, rfl, Nat.zero_le _, hm, fun h => absurd rfl h, fun fl' es' he hfull => by cases he; exact ⟨hf hfull, fun h => by cases h⟩⟩
   | sl fl b off cap k' n es vals hn h hf hc hm hk hs' hr =>
    subst hn
    refine ⟨some ⟨b, off, none⟩, cap, rfl, hc, hm, fun hne => ?_, fun fl' es' he hfull => by cases he; exact ⟨hf hfull, fun h => by cases h⟩⟩
    have hkk : k' = k := by
     cases xs with
     | nil => exact absurd rfl hne
     | cons x0 r => rw [← (hk 0 x0 rfl).2, (hs 0 x0 rfl).2]
    subst hkk
    have hq : ∀ q, q < xs.length * k' → 0 < k' ∧ q / k' < xs.length ∧ q % k' < k' ∧ q / k' * k' + q % k' = q := by
     intro q hq
     have hk0 : 0 < k' := by rcases Nat.eq_zero_or_pos k' with h0 | h0; (subst h0; simp at hq); exact h0
     exact ⟨hk0, (Nat.div_lt_iff_lt_mul hk0).2 hq, Nat.mod_lt _ hk0, by rw [Nat.mul_comm]; exact Nat.div_add_mod q k'⟩
    refine ⟨⟨b, off, none⟩, (List.range (xs.length * k')).map vals, rfl, ⟨by simp, fun u hu => ?_, fun i j x y u h1 h2 h3 => ?_⟩, fun j u hu => ?_⟩
    ·obtain ⟨q, hqm, rfl⟩ := List.mem_map.1 hu
     obtain ⟨hk0, q1, q2, q3⟩ := hq q (List.mem_range.1 hqm)
     have hx := List.getElem?_eq_getElem (l := xs) q1
     have hy := List.getElem?_eq_getElem (l := (xs[q / k']).cells) (i := q % k') (by rw [(hs _ _ hx).2]; exact q2)
     have := hr _ _ _ _ hx hy
     rw [q3] at this
     refine this.oneCell ?_
     exact solid_cells (hs _ _ hx).1 (List.mem_of_getElem? hy)
    ·have hi' := lt_of_getElem? h1
     have hj := lt_of_getElem? h2
     rw [(hs i x h1).2] at hj
     have := mul_lt_of (k := k') hi' hj
     rw [List.getElem?_map, List.getElem?_range this] at h3
     cases h3
     exact hr i j x y h1 h2
    ·rw [List.getElem?_map] at hu
     obtain ⟨q, hq', rfl⟩ := Option.map_eq_some_iff.1 hu
     have hlt := lt_of_getElem? hq'
     simp only [List.length_range] at hlt
     rw [List.getElem?_range hlt] at hq'
     cases hq'
     obtain ⟨hk0, q1, q2, q3⟩ := hq j hlt
     have := (hs' (j / k') (j % k') q1 q2).2
     rw [q3] at this
     rw [Addr.add_lit]
     exact this
  ·cases he
 ·rename_i r off len full
  split at he
  ·rename_i k' es hes
   split at he
   ·rename_i hc
    cases he
    obtain ⟨rfl, hle⟩ := hc
    cases hv with
    | osl r off len b c k' p cap full hb hlen hp hcap =>
     obtain ⟨o1, o2, o3, o4, o5, cur, e, o6, o7, o8⟩ := hi.obj r _ b c _ hes hb
     subst o1
     have hxl : ((es.drop off).take len).length = len := by simp; omega
     have hsol : Solid k ((es.drop off).take len) := Solid.take_drop o5 off len
     refine ⟨hsol, some ⟨b, p, none⟩, cap, by rw [hxl], ?_, ?_, fun hne => ?_, fun _ _ h => by cases h⟩
     ·rw [hxl, hcap]; split <;> omega
     ·rw [hcap]; split <;> omega
     ·subst hp
      have hin : len * k + off * k ≤ cur.size := by rw [o7, ← Nat.add_mul]; exact Nat.mul_le_mul_right _ (by omega)
      refine ⟨_, (cur.toList.drop (off * k)).take (len * k), rfl, ⟨by rw [hxl]; simp; omega, fun u hu => ?_, fun i j x y u h1 h2 h3 => ?_⟩, fun j u hu => ?_⟩
      ·obtain ⟨q, hq⟩ := List.getElem?_of_mem hu
       have hql := lt_of_getElem? hq
       simp only [List.length_take, List.length_drop, Array.length_toList] at hql
       have hql' : q < len * k := by omega
       rw [List.getElem?_take, if_pos hql', List.getElem?_drop] at hq
       have q1 : q / k < len := (Nat.div_lt_iff_lt_mul o2).2 hql'
       have hx := List.getElem?_eq_getElem (l := es) (i := off + q / k) (by omega)
       have hy := List.getElem?_eq_getElem (l := (es[off + q / k]).cells) (i := q % k) (by rw [(o5 _ _ hx).2]; exact Nat.mod_lt _ o2)
       have e1 : (off + q / k) * k + q % k = off * k + q := by
        have := Nat.div_add_mod q k
        rw [Nat.add_mul, Nat.mul_comm (q / k)]; omega
       have := o8 _ _ _ _ u hx hy (by rw [e1]; simpa using hq)
       refine this.oneCell ?_
       exact solid_cells (o5 _ _ hx).1 (List.mem_of_getElem? hy)
      ·have hj := lt_of_getElem? h2
       rw [(hsol i x h1).2] at hj
       have hi' := lt_of_getElem? h1
       rw [hxl] at hi'
       have := mul_lt_of (k := k) hi' hj
       rw [List.getElem?_take, if_pos hi', List.getElem?_drop] at h1
       rw [List.getElem?_take, if_pos this, List.getElem?_drop] at h3
       refine o8 (off + i) j x y u h1 h2 ?_
       rw [Nat.add_mul, Nat.add_assoc]
       simpa using h3
      ·have hql := lt_of_getElem? hu
       simp only [List.length_take, List.length_drop, Array.length_toList] at hql
       rw [List.getElem?_take, if_pos (by omega), List.getElem?_drop] at hu
       rw [Addr.add_lit, cell_own o6]
       simpa using hu
   ·cases he
  ·rename_i cs hes
   split at he
   ·rename_i hc
    obtain ⟨rfl, hle⟩ := hc
    split at he
    ·rename_i vs hvs
     split at he
     ·rename_i hall
      cases he
      have hcs := pures_spec hvs
      have hvl : xs.length = len := by
       have := congrArg List.length hcs
       rw [List.length_map, List.length_take, List.length_drop] at this
       omega
      have hone : ∀ (i : Nat) (x : V), xs[i]? = some x → x.solid = true ∧ x.cells = [x] := fun i x hx => by
       have := List.all_eq_true.1 hall x (List.mem_of_getElem? hx)
       cases x <;> first | exact ⟨rfl, rfl⟩ | cases this
      cases hv with
      | osl r off len b c k' p cap full hb hlen hp hcap =>
       obtain ⟨o1, o3, o4, cur, e, o6, o7, o8⟩ := hi.obj r _ b c _ hes hb
       subst o1
       rw [Nat.mul_one] at hp
       subst hp
       have hrel : ∀ (j : Nat) (x : V) (u : Value), xs[j]? = some x → cur[p + j]? = some u → RelV S w u x := fun j x u hx hu => by
        have hj := lt_of_getElem? hx
        have hd : (xs.map D.v)[j]? = some (.v x) := by rw [List.getElem?_map, hx]; rfl
        rw [← hcs, List.getElem?_take, if_pos (by omega), List.getElem?_drop] at hd
        exact (o8 (p + j) u _ hu hd).of_v
       refine ⟨fun i x hx => ⟨(hone i x hx).1, by rw [(hone i x hx).2]; rfl⟩, some ⟨b, p, none⟩, cap, by rw [hvl], ?_, ?_, fun hne => ?_, fun _ _ h => by cases h⟩
       ·rw [hvl, hcap]; split <;> omega
       ·rw [hcap]; split <;> omega
       ·refine ⟨_, (cur.toList.drop p).take len, rfl, ⟨by simp; omega, fun u hu => ?_, fun i j x y u h1 h2 h3 => ?_⟩, fun j u hu => ?_⟩
        ·obtain ⟨q, hq⟩ := List.getElem?_of_mem hu
         have hql := lt_of_getElem? hq
         simp only [List.length_take, List.length_drop, Array.length_toList] at hql
         rw [List.getElem?_take, if_pos (by omega), List.getElem?_drop] at hq
         have hx := List.getElem?_eq_getElem (l := xs) (i := q) (by omega)
         have := hrel q _ u hx (by simpa using hq)
         refine this.oneCell ?_
         exact List.all_eq_true.1 hall _ (List.mem_of_getElem? hx)
        ·rw [(hone i x h1).2] at h2
         cases j with
         | zero =>
          cases h2
          have hi' := lt_of_getElem? h1
          rw [Nat.mul_one, Nat.add_zero, List.getElem?_take, if_pos (by omega), List.getElem?_drop] at h3
          exact hrel i _ u h1 (by simpa using h3)
         | succ j => simp at h2
        ·have hql := lt_of_getElem? hu
         simp only [List.length_take, List.length_drop, Array.length_toList] at hql
         rw [List.getElem?_take, if_pos (by omega), List.getElem?_drop] at hu
         rw [Addr.add_lit, cell_own o6]
         simpa using hu
     ·cases he
    ·cases he
   ·cases he
  ·cases he
 ·cases he
end Go.Abs
