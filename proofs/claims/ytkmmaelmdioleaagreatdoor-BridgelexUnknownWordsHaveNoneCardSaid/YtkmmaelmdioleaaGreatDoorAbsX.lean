import Derived.Test.YtkmmaelmdioleaaGreatDoorAbsQ
import Derived.Lib.AppendStr
import Derived.Laws.Slices
namespace Go.Abs
set_option linter.unusedVariables false
set_option linter.unusedSimpArgs false
set_option linter.unnecessarySimpa false
variable {DR : Prop}
theorem HInv.kill {S : Nat → Nat → Prop} {β : Blocks} {w : World} {h : List AObj} (hi : HInv S β w h) (r : Nat) : HInv S β w (h.set r .dead) := by
 have back : ∀ (q : Nat) (y : AObj), (h.set r .dead)[q]? = some y → y.live = true → h[q]? = some y := by
  intro q y gq ly
  rw [List.getElem?_set] at gq
  split at gq
  ·split at gq
   ·cases gq; cases ly
   ·cases gq
  ·exact gq
 refine ⟨by simp [hi.len], fun q o b c k g1 g2 => ?_, fun q o b c k g1 l1 g2 => hi.lt q o b c k (back _ _ g1 l1) l1 g2, fun r1 r2 o1 o2 b c1 k1 c2 k2 g1 l1 g2 l2 g3 g4 => hi.inj r1 r2 o1 o2 b c1 k1 c2 k2 (back _ _ g1 l1) l1 (back _ _ g2 l2) l2 g3 g4,
  fun q o b c k i g1 l1 g2 => hi.own q o b c k i (back _ _ g1 l1) l1 g2, hi.sb, hi.gl, hi.dl⟩
 cases hl : o.live with
 | true => exact hi.obj q o b c k (back _ _ g1 hl) g2
 | false => cases o <;> first | trivial | cases hl
theorem HInv.move {S : Nat → Nat → Prop} {β : Blocks} {w : World} {h : List AObj} (hi : HInv S β w h) {r b c k : Nat} {o : AObj} (hr : h[r]? = some o) (hl : o.live = true) (hb : β[r]? = some (b, c, k)) :
  Ext DR S β w S (β ++ [(b, c, k)]) w ∧ HInv S (β ++ [(b, c, k)]) w (h.set r .dead ++ [o]) := by
 have hp : ∀ (q : Nat) x, β[q]? = some x → (β ++ [(b, c, k)])[q]? = some x := fun q x hx => (getElem?_snoc _ _ _ _).2 (.inl ⟨hx, lt_of_getElem? hx⟩)
 have hk := hi.kill r
 have hlen := hi.len
 have hK : Keeps S w S w := fun _ _ h => ⟨h, rfl⟩
 have notr : ∀ (q : Nat) (y : AObj), (h.set r .dead)[q]? = some y → y.live = true → q ≠ r := by
  intro q y gq ly e
  subst e
  rw [List.getElem?_set, if_pos rfl] at gq
  split at gq
  ·cases gq; cases ly
  ·cases gq
 have back : ∀ (q : Nat) (y : AObj), (h.set r .dead)[q]? = some y → y.live = true → h[q]? = some y := by
  intro q y gq ly
  have hne := notr q y gq ly
  rw [List.getElem?_set, if_neg (fun e => hne e.symm)] at gq
  exact gq
 constructor
 ·refine ⟨hK, hp, Nat.le_refl _, fun _ _ _ => rfl, fun q b' c' k' hq => ?_, rfl, rfl, rfl, fun _ => Nat.le_refl _, fun _ _ h => .inl h⟩
  rcases (getElem?_snoc _ _ _ _).1 hq with ⟨h1, _⟩ | ⟨_, h1⟩
  ·exact .inr ⟨q, c', k', h1⟩
  ·cases h1; exact .inr ⟨r, c, _, hb⟩
 ·refine ⟨by simp [hlen], fun q o' b' c' k' g1 g2 => ?_, fun q o' b' c' k' g1 l1 g => ?_, fun q1 q2 o1 o2 b' c1 k1 c2 k2 g1 l1 g2 l2 g3 g4 => ?_, fun q o' b' c' k' i g1 l1 g2 => ?_, hi.sb, hi.gl, fun q b' c' k' hq => ?_⟩
  ·rcases (getElem?_snoc _ _ _ _).1 g1 with ⟨g1, j1⟩ | ⟨j1, g1⟩ <;> rcases (getElem?_snoc _ _ _ _).1 g2 with ⟨g2, j2⟩ | ⟨j2, g2⟩
   ·exact (hk.obj q o' b' c' k' g1 g2).mono hK hp (fun _ => rfl)
   ·simp at j1; omega
   ·simp at j1; omega
   ·cases g2; subst g1; exact (hi.obj r o b c k hr hb).mono hK hp (fun _ => rfl)
  ·rcases (getElem?_snoc _ _ _ _).1 g with ⟨g, jj⟩ | ⟨_, g⟩
   ·rcases (getElem?_snoc _ _ _ _).1 g1 with ⟨g1, j1⟩ | ⟨j1, g1⟩
    ·exact hi.lt q o' b' c' k' (back _ _ g1 l1) l1 g
    ·simp at j1; omega
   ·cases g; exact hi.lt r o b c k hr hl hb
  ·rcases (getElem?_snoc _ _ _ _).1 g1 with ⟨g1, j1⟩ | ⟨j1, g1⟩ <;> rcases (getElem?_snoc _ _ _ _).1 g2 with ⟨g2, j2⟩ | ⟨j2, g2⟩ <;>
    rcases (getElem?_snoc _ _ _ _).1 g3 with ⟨g3, j3⟩ | ⟨j3, g3⟩ <;> rcases (getElem?_snoc _ _ _ _).1 g4 with ⟨g4, j4⟩ | ⟨j4, g4⟩
   ·exact hi.inj q1 q2 o1 o2 b' c1 k1 c2 k2 (back _ _ g1 l1) l1 (back _ _ g2 l2) l2 g3 g4
   all_goals (try simp only [List.length_set] at j1)
   all_goals (try simp only [List.length_set] at j2)
   all_goals first
    | omega
    | (simp only [Prod.mk.injEq] at g4; obtain ⟨q3, q4, q5⟩ := g4; rw [← q3] at g3; have := hi.inj q1 r o1 o b c1 k1 _ _ (back _ _ g1 l1) l1 hr hl g3 hb; exact absurd this (notr q1 o1 g1 l1))
    | (simp only [Prod.mk.injEq] at g3; obtain ⟨q3, q4, q5⟩ := g3; rw [← q3] at g4; have := hi.inj q2 r o2 o b c2 k2 _ _ (back _ _ g2 l2) l2 hr hl g4 hb; exact absurd this (notr q2 o2 g2 l2))
  ·rcases (getElem?_snoc _ _ _ _).1 g1 with ⟨g1, j1⟩ | ⟨j1, g1⟩ <;> rcases (getElem?_snoc _ _ _ _).1 g2 with ⟨g2, j2⟩ | ⟨j2, g2⟩
   ·exact hi.own q o' b' c' k' i (back _ _ g1 l1) l1 g2
   ·simp at j1; omega
   ·simp at j1; omega
   ·cases g2; subst g1; exact hi.own r o b c k i hr hl hb
  ·rcases (getElem?_snoc _ _ _ _).1 hq with ⟨h1, _⟩ | ⟨_, h1⟩
   ·exact hi.dl _ _ _ _ h1
   ·cases h1; exact hi.dl _ _ _ _ hb
theorem run_append_zero {P : Program} {t ty e : Nat} {i : TypeInfo} (ht : P.underlying t = some (.slice e)) (hi : P.info? e = some i) (base base' : Option Addr) (n c c' : Nat) (h : n ≤ c) (w : World) :
  (Builtin.append_ #[t, t] ty #[.slice base n c, .slice base' 0 c']).run P w = .ok (.slice base n c) w := by
 cases base' <;> cases base <;> simp [Builtin.append_, run_underlying ht, run_sizeOf hi, Builtin.lenOf, h, Builtin.firstCells, loadCells, loadCellsFrom, storeCells]
theorem append_room {P : Program} {w : World} {t ty e e' : Nat} {i : TypeInfo} (ht : P.underlying t = some (.slice e)) (hi : P.info? e = some i) {g sLen sCap : Nat} {cur : Array Value} (hg : w.heap[g]? = some (.cells cur e' (0, 0)))
  (a : Addr) (m c : Nat) (news : List Value) (hl : news.length = m * i.size) (hnews : ∀ (j : Nat) u, news[j]? = some u → w.cell? (a.add j) = some u) (h1 : ∀ u ∈ news, u.oneCell' = true)
  (hroom : sLen + m ≤ sCap) (hfit : sLen * i.size + news.length ≤ cur.size) :
  (Builtin.append_ #[t, t] ty #[.slice (some ⟨g, 0, none⟩) sLen sCap, .slice (some a) m c]).run P w = .ok (.slice (some ⟨g, 0, none⟩) (sLen + m) sCap) (w.setRow g (spliceA cur (sLen * i.size) news)) := by
 have hf := run_firstCells_some (P := P) w i.size m a m c news hl hnews
 have hst := run_store_own (P := P) (w := w) (off := sLen * i.size) (vs := news) hg hfit h1
 simp [Builtin.append_, run_underlying ht, run_sizeOf hi, Builtin.lenOf, hroom, hf, Addr.add_lit, hst]
theorem size_zeros (z : Array Value) (n : Nat) : (Builtin.zeroCells z n).size = n * z.size := by simp [Builtin.zeroCells]
theorem grown_own {S : Nat → Nat → Prop} {β : Blocks} {w : World} {h : List AObj} (hi : HInv S β w h) {k : Nat} (hk : 0 < k) {ys : List V} (hs : Solid k ys) {all : List Value} (hl : Laid S w k ys all) {z : Array Value} (hz : z.size = k) (need old e : Nat) (hneed : need = ys.length) (hm : need ≤ maxLen) :
  ∃ β', Ext DR S β w S β' (w.drew.alloc (.cells (all.toArray ++ Builtin.zeroCells z (grownCap w need old e - need)) e)) ∧
   HInv S β' (w.drew.alloc (.cells (all.toArray ++ Builtin.zeroCells z (grownCap w need old e - need)) e)) (h ++ [.row k ys]) ∧
   RelD S β' (w.drew.alloc (.cells (all.toArray ++ Builtin.zeroCells z (grownCap w need old e - need)) e)) (.slice (some ⟨w.heap.size, 0, none⟩) need (grownCap w need old e)) (.osl h.length 0 need false) := by
 have hge := grownCap_ge w need old e
 have hcm := grownCap_le_maxLen w need old e hm
 have hi' := hi.drew
 have hsz : (all.toArray ++ Builtin.zeroCells z (grownCap w need old e - need)).size = grownCap w need old e * k := by
  simp only [Array.size_append, List.size_toArray, size_zeros, hl.len, hz, ← Nat.add_mul]
  congr 1; omega
 have hkp := keeps_alloc hi' (.cells (all.toArray ++ Builtin.zeroCells z (grownCap w need old e - need)) e) S (fun _ _ h => h)
 obtain ⟨e1, e2⟩ := own_alloc (DR := DR) hi' (all.toArray ++ Builtin.zeroCells z (grownCap w need old e - need)) e (grownCap w need old e) k (.row k ys) rfl
  ⟨rfl, hk, hcm, by omega, hs, _, e, heap_alloc_new w.drew _, hsz, fun i j x y v hx hy hv => by
   have hj := lt_of_getElem? hy
   rw [(hs i x hx).2] at hj
   have := mul_lt_of (k := k) (lt_of_getElem? hx) hj
   rw [Array.getElem?_append_left (by simp [hl.len]; exact this)] at hv
   exact RelV.mono hkp (RelV.mono (w := w) (w' := w.drew) (fun _ _ h => ⟨h, rfl⟩) (hl.rel i j x y v hx hy (by simpa using hv)))⟩
 refine ⟨_, (Ext.drew S β w).trans e1, e2, ?_⟩
 refine .osl _ 0 need w.heap.size (grownCap w need old e) k 0 _ false (by rw [← hi.len]; simp) (by omega) (by simp) (by simp)
theorem flat_cell {k : Nat} (hk : 0 < k) : ∀ {xs : List V}, Solid k xs → (xs.flatMap V.cells).length = xs.length * k ∧ ∀ (q : Nat) (y : V), (xs.flatMap V.cells)[q]? = some y → ∃ (i j : Nat) (x : V), xs[i]? = some x ∧ x.cells[j]? = some y ∧ q = i * k + j
 | [], _ => ⟨by simp, fun q y h => by simp at h⟩
 | x :: r, hs => by
  have hx := (hs 0 x rfl).2
  obtain ⟨h1, h2⟩ := flat_cell hk (xs := r) (fun i y h => hs (i + 1) y h)
  rw [List.flatMap_cons]
  refine ⟨by rw [List.length_append, h1, hx, List.length_cons, Nat.add_mul]; omega, fun q y h => ?_⟩
  rcases Nat.lt_or_ge q k with g | g
  ·rw [List.getElem?_append_left (by omega)] at h
   exact ⟨0, q, x, rfl, h, by omega⟩
  ·rw [List.getElem?_append_right (by omega)] at h
   obtain ⟨i, j, z, e1, e2, e3⟩ := h2 _ y h
   exact ⟨i + 1, j, z, e1, e2, by rw [Nat.add_mul]; omega⟩
theorem grown_grid {S : Nat → Nat → Prop} {β : Blocks} {w : World} {h : List AObj} (hi : HInv S β w h) {k : Nat} (hk : 0 < k) {cs : List D} {all : List Value} (need old e : Nat) (hal : all.length = need * k) (hcl : cs.length = need * k) (hrel : ∀ (j : Nat) v d, all[j]? = some v → cs[j]? = some d → RelD S β w v d) {z : Array Value} (hz : z.size = k) (hm : need ≤ maxLen) :
  ∃ β', Ext DR S β w S β' (w.drew.alloc (.cells (all.toArray ++ Builtin.zeroCells z (grownCap w need old e - need)) e)) ∧
   HInv S β' (w.drew.alloc (.cells (all.toArray ++ Builtin.zeroCells z (grownCap w need old e - need)) e)) (h ++ [.grid k cs]) ∧
   RelD S β' (w.drew.alloc (.cells (all.toArray ++ Builtin.zeroCells z (grownCap w need old e - need)) e)) (.slice (some ⟨w.heap.size, 0, none⟩) need (grownCap w need old e)) (.osl h.length 0 need false) := by
 have hge := grownCap_ge w need old e
 have hcm := grownCap_le_maxLen w need old e hm
 have hi' := hi.drew
 have hsz : (all.toArray ++ Builtin.zeroCells z (grownCap w need old e - need)).size = grownCap w need old e * k := by
  simp only [Array.size_append, List.size_toArray, size_zeros, hal, hz, ← Nat.add_mul]
  congr 1; omega
 have hkp := keeps_alloc hi' (.cells (all.toArray ++ Builtin.zeroCells z (grownCap w need old e - need)) e) S (fun _ _ h => h)
 have hle : need * k ≤ grownCap w need old e * k := Nat.mul_le_mul_right _ hge
 obtain ⟨e1, e2⟩ := own_alloc (DR := DR) hi' (all.toArray ++ Builtin.zeroCells z (grownCap w need old e - need)) e (grownCap w need old e) k (.grid k cs) rfl
  ⟨rfl, hk, hcm, by omega, _, e, heap_alloc_new w.drew _, hsz, fun j v d hv hd => by
   have hj := lt_of_getElem? hd
   rw [Array.getElem?_append_left (by simp [hal]; omega)] at hv
   exact RelD.mono hkp (fun r x hx => (getElem?_snoc _ _ _ _).2 (.inl ⟨hx, lt_of_getElem? hx⟩)) (RelD.mono (w := w) (w' := w.drew) (fun _ _ h => ⟨h, rfl⟩) (fun _ _ h => h) (hrel j v d (by simpa using hv) hd))⟩
 refine ⟨_, (Ext.drew S β w).trans e1, e2, ?_⟩
 refine .osl _ 0 need w.heap.size (grownCap w need old e) k 0 _ false (by rw [← hi.len]; simp) (by omega) (by simp) (by simp)
theorem grown_tok {S : Nat → Nat → Prop} {β : Blocks} {w : World} {h : List AObj} (hi : HInv S β w h) {k : Nat} (hk : 0 < k) {ys : List V} (hs : Solid k ys) {all : List Value} (hl : Laid S w k ys all) {z : Array Value} (hz : z.size = k) (need old e : Nat) (hneed : need = ys.length) (hm : need ≤ maxLen) :
  ∃ S' β', Ext DR S β w S' β' (w.drew.alloc (.cells (all.toArray ++ Builtin.zeroCells z (grownCap w need old e - need)) e)) ∧
   HInv S' β' (w.drew.alloc (.cells (all.toArray ++ Builtin.zeroCells z (grownCap w need old e - need)) e)) (h ++ [.tok k need]) ∧
   RelD S' β' (w.drew.alloc (.cells (all.toArray ++ Builtin.zeroCells z (grownCap w need old e - need)) e)) (.slice (some ⟨w.heap.size, 0, none⟩) need (grownCap w need old e)) (.tsl h.length ys) := by
 have hge := grownCap_ge w need old e
 have hcm := grownCap_le_maxLen w need old e hm
 have hi' := hi.drew
 have hsz : (all.toArray ++ Builtin.zeroCells z (grownCap w need old e - need)).size = grownCap w need old e * k := by
  simp only [Array.size_append, List.size_toArray, size_zeros, hl.len, hz, ← Nat.add_mul]
  congr 1; omega
 obtain ⟨e1, e2⟩ := tok_alloc (DR := DR) hi' (all.toArray ++ Builtin.zeroCells z (grownCap w need old e - need)) e (grownCap w need old e) k need hk hcm hge hsz
 refine ⟨_, _, (Ext.drew S β w).trans e1, e2, ?_⟩
 subst hneed
 refine .tsl _ w.heap.size (grownCap w ys.length old e) k ys.length ys (by rw [← hi.len]; simp) rfl hs ?_
 refine rel_sl_of .plain (by decide) hs (heap_alloc_new w.drew _) (fun i hi => .inr ⟨rfl, hi⟩) hge (fun h => by cases h) hcm (by rw [hsz]; exact Nat.mul_le_mul_right _ hge) (fun i j x y v hx hy hv => ?_)
 have hj := lt_of_getElem? hy
 rw [(hs i x hx).2] at hj
 have := mul_lt_of (k := k) (lt_of_getElem? hx) hj
 rw [Array.getElem?_append_left (by simp [hl.len]; exact this)] at hv
 exact RelV.mono e1.keeps (RelV.mono (w := w) (w' := w.drew) (fun _ _ h => ⟨h, rfl⟩) (hl.rel i j x y v hx hy (by simpa using hv)))
structure Src (P : Program) (w : World) (S : Nat → Nat → Prop) (t t' ty e k : Nat) (info : TypeInfo) (z : Value) (u : Value) (xs : List V) : Prop where
 sol : Solid k xs
 zero : xs = [] → ∀ (base : Option Addr) (n c : Nat), n ≤ c → (Builtin.append_ #[t, t'] ty #[.slice base n c, u]).run P w = .ok (.slice base n c) w
 some : xs ≠ [] → ∃ news, Laid S w k xs news ∧
  (∀ {g sLen sCap : Nat} {cur : Array Value} {e' : Nat}, w.heap[g]? = some (.cells cur e' (0, 0)) → sLen + xs.length ≤ sCap → sLen * info.size + news.length ≤ cur.size →
   (Builtin.append_ #[t, t'] ty #[.slice (some ⟨g, 0, none⟩) sLen sCap, u]).run P w = .ok (.slice (some ⟨g, 0, none⟩) (sLen + xs.length) sCap) (w.setRow g (spliceA cur (sLen * info.size) news))) ∧
  (∀ (b : Addr) (sLen sCap : Nat) (olds : List Value), olds.length = sLen * info.size → (∀ (j : Nat) v, olds[j]? = some v → w.cell? (b.add j) = some v) → sCap < sLen + xs.length → ((sLen + xs.length : Nat) : Int) ≤ 9223372036854775807 →
   Builtin.nextslicecap (sLen + xs.length) sCap * info.bytes ≤ 281474976710656 → (Builtin.append_ #[t, t'] ty #[.slice (some b) sLen sCap, u]).run P w = .ok (.slice (some ⟨w.heap.size, 0, none⟩) (sLen + xs.length) (grownCap w (sLen + xs.length) sCap e))
    (w.drew.alloc (.cells (olds.toArray ++ news.toArray ++ Builtin.zeroCells z.cells (grownCap w (sLen + xs.length) sCap e - (sLen + xs.length))) e))) ∧
  ((xs.length : Int) ≤ 9223372036854775807 → xs.length * info.bytes ≤ 281474976710656 → (Builtin.append_ #[t, t'] ty #[.slice none 0 0, u]).run P w =
   .ok (.slice (some ⟨w.heap.size, 0, none⟩) xs.length (grownCap w xs.length 0 e)) (w.drew.alloc (.cells (news.toArray ++ Builtin.zeroCells z.cells (grownCap w xs.length 0 e - xs.length)) e)))
theorem append_core {P : Program} {T : Nat → Option TI} (hT : ∀ t i, T t = some i → tiOf P t = some i) {S : Nat → Nat → Prop} {β : Blocks} {w : World} {h h' : List AObj} (hi : HInv S β w h) {rowM : Bool} {t t' ty : Nat} {s x d : D}
  (hd : appendD T rowM t h s x = some (d, h')) {v u : Value} (hv : RelD S β w v s)
  (hsrc : ∀ (e : Nat) (i : TI) (info : TypeInfo) (z : Value) (xs : List V), P.underlying t = some (.slice e) → P.info? e = some info → info.zero = some z → info.size = i.size → elemsOf i.size h x.unt = some xs → Src P w S t t' ty e i.size info z u xs) :
  ∃ y w' S' β', (Builtin.append_ #[t, t'] ty #[v, u]).run P w = .ok y w' ∧ Ext DR S β w S' β' w' ∧ HInv S' β' w' h' ∧ RelD S' β' w' y d := by
 unfold appendD at hd
 split at hd
 ·cases hd
 ·rename_i ti hti
  split at hd
  ·rename_i e hke
   split at hd
   ·cases hd
   ·rename_i i hie
    obtain ⟨info, desc, z, g1, g2, g3, g4, g5, g6, g7, g8, _⟩ := tiOf_spec (hT _ _ hti)
    obtain ⟨info', desc', z', k1, k2, k3, k4, k5, k6, k7, k8, _⟩ := tiOf_spec (hT _ _ hie)
    rw [hke] at g5
    have := tkOf_slice g5
    subst this
    split at hd
    ·cases hd
    ·rename_i hsz
     have hsz0 : i.size ≠ 0 := fun h => hsz (.inl h)
     have hzl : i.zero.cells.length = i.size := Decidable.of_not_not fun h => hsz (.inr h)
     have hzs : z'.cells.size = i.size := by rw [((ofValue_rel (S := S) (w := w) k4).cells (ofValue_solid k4)).1, hzl]
     split at hd
     ·cases hd
     ·rename_i xs hxs
      obtain ⟨sx, hzero, hcells⟩ := hsrc e i info' z' xs g2 k1 k3 k7 hxs
      split at hd
      ·-- a value that may be appended to
       rename_i q es
       cases hv with
       | tsl _ b c k n _ hb hn hss hvv =>
       have hval : RelD S β w (.slice (some ⟨b, 0, none⟩) n c) (.v (.sl .plain es)) := .v _ _ hvv
       split at hd
       ·rename_i k' n' hq
        split at hd
        ·rename_i hcond
         obtain ⟨rfl, rfl, hb1, hb2⟩ := hcond
         subst hn
         obtain ⟨rfl, rfl⟩ := Prod.mk.inj (Option.some.inj hd)
         cases xs with
         | nil =>
          have hnc : es.length ≤ c := by
           have hvv' := hvv
           generalize es.length = m at hvv'
           cases hvv' with
           | slemp fl a cap h hf hm => exact Nat.zero_le _
           | sl fl b off cap k' n es vals hn h hf hc hm hk hs' hr => exact hc
          obtain ⟨e1, e2⟩ := hi.move hq rfl hb
          refine ⟨_, w, S, _, hzero rfl _ _ _ hnc, e1, by simpa using e2, ?_⟩
          simp only [List.append_nil]
          exact .tsl _ b c _ _ es (by rw [← hi.len]; simp) rfl hss (hvv.mono e1.keeps)
         | cons x0 xr =>
          obtain ⟨news, hlaid, hroomL, hgrowL, hnilL⟩ := hcells (by simp)
          obtain ⟨rfl, o2, o3, o4, cur, e', o5, o6⟩ := hi.obj q _ b c k hq hb
          have hb2' : es.length + (x0 :: xr).length ≤ 9223372036854775807 := by unfold maxLen at hb2; omega
          have hnl : news.length = (x0 :: xr).length * info'.size := by rw [k7]; exact hlaid.len
          have hxl : (x0 :: xr).length ≠ 0 := by simp
          have hhead : headOk i.size es = true := by
           cases es with
           | nil => rfl
           | cons y0 yr => simp only [headOk, beq_iff_eq]; exact (hss 0 y0 rfl).2
          have hes : elemsOf i.size h (.v (.sl .plain es)) = some es := by simp only [elemsOf, hhead, if_true]
          obtain ⟨ss, sbase, sc, hveq, hsc, hsm, hscells, hxf⟩ := elemsOf_sound hi hes hval
          clear hxf
          simp only [Value.slice.injEq, true_and] at hveq
          obtain ⟨rfl, rfl⟩ := hveq
          have hold : ∃ olds, Laid S w i.size es olds ∧ ∀ (j : Nat) u, olds[j]? = some u → w.cell? ((⟨b, 0, none⟩ : Addr).add j) = some u := by
           by_cases h0 : es = []
           ·rw [h0]; exact ⟨[], ⟨by simp, by simp, fun i j x y u h => by simp at h⟩, fun j u h => by simp at h⟩
           ·obtain ⟨sa, olds, hsa, hol, hocell⟩ := hscells h0
            cases hsa
            exact ⟨olds, hol, hocell⟩
          obtain ⟨olds, hol, hocell⟩ := hold
          have hsol := ss.append sx
          have hlall := Laid.append sx ss hol hlaid
          by_cases hroom : es.length + (x0 :: xr).length ≤ c
          ·-- it fits
           have hfit : es.length * i.size + news.length ≤ cur.size := by rw [hlaid.len, o6, ← Nat.add_mul]; exact Nat.mul_le_mul_right _ hroom
           have hrun := hroomL o5 hroom (by rw [k7]; exact hfit)
           rw [k7] at hrun
           have hg' := setRow_heap w b cur (spliceA cur (es.length * i.size) news) e' _ o5
           obtain ⟨e1, e2⟩ := tok_write (w' := w.setRow b (spliceA cur (es.length * i.size) news)) (n' := es.length + (x0 :: xr).length) hi hq hb o5 hg' (by rw [spliceA_size hfit]; exact o6)
            (fun j hj => by rw [spliceA_get hfit, if_neg (by omega)]) (by omega) hroom (by simp) (fun j hj => setRow_other w b j _ hj) rfl rfl rfl (Nat.le_refl _)
           obtain ⟨e3, e4⟩ := e2.move (DR := DR) (r := q) (o := .tok i.size (es.length + (x0 :: xr).length)) (by rw [List.getElem?_set]; simp [lt_of_getElem? hq]) rfl hb
           rw [List.set_set] at e4
           refine ⟨_, _, _, _, hrun, e1.trans e3, e4, ?_⟩
           refine .tsl _ b c i.size (es.length + (x0 :: xr).length) _ (by rw [← hi.len]; simp) (by simp) hsol ?_
           have hcat : es.length + (x0 :: xr).length = (es ++ x0 :: xr).length := by simp
           have e1' := e1
           rw [hcat] at e1' ⊢
           refine rel_sl_of .plain (by decide) hsol hg' (fun i hi => .inr ⟨rfl, hi⟩) (by rw [← hcat]; exact hroom) (fun h => by cases h) o3 (by rw [spliceA_size hfit, o6, ← hcat]; exact Nat.mul_le_mul_right _ hroom) (fun i' j x y u h1 h2 h3 => ?_)
           have hj := lt_of_getElem? h2
           rw [(hsol i' x h1).2] at hj
           refine RelV.mono e1'.keeps (hlall.rel i' j x y u h1 h2 ?_)
           rw [spliceA_get hfit] at h3
           by_cases hi' : i' < es.length
           ·have h4 := mul_lt_of (k := i.size) hi' hj
            rw [if_neg (by omega)] at h3
            rw [List.getElem?_append_left (by rw [hol.len]; exact h4)]
            have h5 := List.getElem?_eq_getElem (l := olds) (i := i' * i.size + j) (by rw [hol.len]; exact h4)
            have h6 := hocell _ _ h5
            rw [Addr.add_lit, Nat.zero_add, cell_own o5, h3] at h6
            rw [h5, ← h6]
           ·have h5 : es.length * i.size ≤ i' * i.size := Nat.mul_le_mul_right _ (by omega)
            rw [List.getElem?_append_right (by omega)] at h1
            have h6 := mul_lt_of (k := i.size) (lt_of_getElem? h1) hj
            rw [if_pos (by rw [hlaid.len]; rw [Nat.sub_mul] at h6; omega)] at h3
            rw [List.getElem?_append_right (by rw [hol.len]; omega), hol.len]
            exact h3
          ·-- it grows
           have hrun := hgrowL ⟨b, 0, none⟩ es.length c olds (by rw [k7, hol.len]) hocell (by omega) (by omega)
            (growslice_fits (by omega) (by rw [k8]; omega))
           obtain ⟨S', β', e1, e2, e3⟩ := grown_tok (DR := DR) (hi.kill q) (by omega) hsol hlall hzs (es.length + (x0 :: xr).length) c e (by simp) (by omega)
           have ea : (olds ++ news).toArray = olds.toArray ++ news.toArray := by simp
           rw [ea] at e1 e2 e3
           exact ⟨_, _, S', β', hrun, e1, e2, by simpa using e3⟩
        ·cases hd
       ·cases hd
      ·-- a value
       rename_i fl es
       split at hd
       ·obtain ⟨rfl, rfl⟩ := Prod.mk.inj (Option.some.inj hd)
        have hv' := hv.of_v
        have hpad : ∃ β', Ext DR S β w S β' w ∧ HInv S β' w (h ++ [.dead]) := ⟨_, hi.pad⟩
        obtain ⟨β', e1, e2⟩ := hpad
        have hv2 := hv.mono e1.keeps e1.pre
        cases hv' with
        | slnil fl h => exact ⟨_, w, S, β', hzero rfl _ _ _ (Nat.le_refl _), e1, e2, hv2⟩
        | slemp fl a cap h hf hm => exact ⟨_, w, S, β', hzero rfl _ _ _ (Nat.zero_le _), e1, e2, hv2⟩
        | sl fl b off cap k' n es vals hn h hf hc hm hk hs' hr => exact ⟨_, w, S, β', hzero rfl _ _ _ hc, e1, e2, hv2⟩
       ·rename_i x0 xr
        split at hd
        ·rename_i hcond
         simp only [Bool.and_eq_true, decide_eq_true_eq] at hcond
         obtain ⟨⟨⟨hfull, hall⟩, hb1⟩, hb2⟩ := hcond
         have split2 : ∀ {hh : List AObj} {y : Value} {w' : World} {A : Prop}, (∃ β', A ∧ Ext DR S β w S β' w' ∧ HInv S β' w' (h ++ [.row i.size (es ++ x0 :: xr)]) ∧ RelD S β' w' y (.osl h.length 0 (es.length + (x0 :: xr).length) false)) →
           (∃ S' β', A ∧ Ext DR S β w S' β' w' ∧ HInv S' β' w' (h ++ [.tok i.size (es.length + (x0 :: xr).length)]) ∧ RelD S' β' w' y (.tsl h.length (es ++ x0 :: xr))) → ∃ S' β', A ∧ Ext DR S β w S' β' w' ∧ HInv S' β' w' h' ∧ RelD S' β' w' y d := by
          intro hh y w' A h1 h2
          split at hd
          ·obtain ⟨rfl, rfl⟩ := Prod.mk.inj (Option.some.inj hd)
           obtain ⟨β', h1⟩ := h1
           exact ⟨S, β', h1⟩
          ·obtain ⟨rfl, rfl⟩ := Prod.mk.inj (Option.some.inj hd)
           exact h2
         obtain ⟨news, hlaid, hroomL, hgrowL, hnilL⟩ := hcells (by simp)
         have hes : elemsOf i.size h (.v (.sl fl es)) = some es := by simp only [elemsOf, hall, if_true]
         obtain ⟨ss, sbase, sc, rfl, hsc, hsm, hscells, hsfull⟩ := elemsOf_sound hi hes hv
         obtain ⟨hsc', hsnil⟩ := hsfull fl es rfl hfull
         subst hsc'
         have hxl : (x0 :: xr).length ≠ 0 := by simp
         have hb2' : es.length + (x0 :: xr).length ≤ 9223372036854775807 := by unfold maxLen at hb2; omega
         have hnl : news.length = (x0 :: xr).length * info'.size := by rw [k7]; exact hlaid.len
         cases es with
         | nil =>
          -- nothing was there
          have hdone : ∃ y, (Builtin.append_ #[t, t'] ty #[.slice sbase 0 0, u]).run P w = .ok (.slice (some ⟨w.heap.size, 0, none⟩) (x0 :: xr).length (grownCap w (x0 :: xr).length 0 e)) y ∧
            y = w.drew.alloc (.cells (news.toArray ++ Builtin.zeroCells z'.cells (grownCap w (x0 :: xr).length 0 e - (x0 :: xr).length)) e) := by
           cases sbase with
           | none => exact ⟨_, hnilL (by simp only [List.length_nil] at hb2'; omega) (by rw [k8]; simp only [List.length_nil, Nat.zero_add] at hb1; omega), rfl⟩
           | some sa =>
            have := hgrowL sa 0 0 [] (by simp) (fun j v hv => by simp at hv) (by omega) (by simp only [List.length_nil] at hb2'; omega)
             (growslice_fits (by omega) (by rw [k8]; simp only [List.length_nil] at hb1; omega))
            simp only [Nat.zero_add, Array.empty_append] at this
            exact ⟨_, this, rfl⟩
          obtain ⟨y, hrun, rfl⟩ := hdone
          obtain ⟨β', e1, e2, e3⟩ := grown_own (DR := DR) hi (by omega) sx hlaid hzs (x0 :: xr).length 0 e rfl (by simp only [List.length_nil] at hb2; omega)
          obtain ⟨S2, β2, f1, f2, f3⟩ := grown_tok (DR := DR) hi (by omega) sx hlaid hzs (x0 :: xr).length 0 e rfl (by simp only [List.length_nil] at hb2; omega)
          obtain ⟨S', β'', q1, q2, q3, q4⟩ := split2 (hh := h) ⟨β', hrun, e1, by simpa using e2, by simpa using e3⟩ ⟨S2, β2, hrun, f1, by simpa using f2, by simpa using f3⟩
          exact ⟨_, _, S', β'', q1, q2, q3, q4⟩
         | cons y0 yr =>
          obtain ⟨sa, olds, rfl, hol, hocell⟩ := hscells (by simp)
          have hrun := hgrowL sa (y0 :: yr).length (y0 :: yr).length olds (by rw [k7]; exact hol.len) hocell (by omega) (by omega)
           (growslice_fits (by omega) (by rw [k8]; omega))
          obtain ⟨β', e1, e2, e3⟩ := grown_own (DR := DR) hi (by omega) (ss.append sx) (Laid.append sx ss hol hlaid) hzs ((y0 :: yr).length + (x0 :: xr).length) (y0 :: yr).length e (by simp; omega) (by omega)
          obtain ⟨S2, β2, f1, f2, f3⟩ := grown_tok (DR := DR) hi (by omega) (ss.append sx) (Laid.append sx ss hol hlaid) hzs ((y0 :: yr).length + (x0 :: xr).length) (y0 :: yr).length e (by simp; omega) (by omega)
          have ea : (olds ++ news).toArray = olds.toArray ++ news.toArray := by simp
          rw [ea] at e1 e2 e3 f1 f2 f3
          obtain ⟨S', β'', q1, q2, q3, q4⟩ := split2 (hh := h) ⟨β', hrun, e1, e2, e3⟩ ⟨S2, β2, hrun, f1, f2, f3⟩
          exact ⟨_, _, S', β'', q1, q2, q3, q4⟩
        ·cases hd
      ·-- an own slice
       rename_i r off len full
       by_cases hrw : rowM = false
       ·rw [if_pos hrw] at hd; cases hd
       rw [if_neg hrw] at hd
       split at hd
       ·rename_i k' es hes
        split at hd
        ·rename_i hcond
         obtain ⟨rfl, hle, hb1, hb2⟩ := hcond
         cases hv with
         | osl r off len b c k' p cap full hb hlen hp hcap =>
         obtain ⟨o1, o2, o3, o4, o5, cur, e', o6, o7, o8⟩ := hi.obj r _ b c _ hes hb
         subst o1
         subst hp
         have hb2' : len + xs.length ≤ 9223372036854775807 := by unfold maxLen at hb2; omega
         have hlc : len ≤ cap := by rw [hcap]; split <;> omega
         have helems : elemsOf i.size h (.osl r off len full) = some ((es.drop off).take len) := by simp [elemsOf, hes, hle]
         obtain ⟨ss, sbase, sc, hveq, hsc, hsm, hscells, hxf⟩ := elemsOf_sound hi helems (.osl r off len b c _ _ cap full hb hlen rfl hcap)
         clear hxf
         have hel : ((es.drop off).take len).length = len := by simp; omega
         split at hd
         ·rename_i hfull
          split at hd
          ·obtain ⟨rfl, rfl⟩ := Prod.mk.inj (Option.some.inj hd)
           exact ⟨_, w, S, β, hzero rfl _ _ _ hlc, Ext.refl _ _ _, hi, .osl r off len b c _ _ cap full hb hlen rfl hcap⟩
          ·rename_i x0 xr
           obtain ⟨rfl, rfl⟩ := Prod.mk.inj (Option.some.inj hd)
           obtain ⟨news, hlaid, hroomL, hgrowL, hnilL⟩ := hcells (by simp)
           rw [if_pos hfull] at hcap
           subst hcap
           have hxl : (x0 :: xr).length ≠ 0 := by simp
           have hnl : news.length = (x0 :: xr).length * info'.size := by rw [k7]; exact hlaid.len
           -- the old cells
           have hold : ∃ olds, Laid S w i.size ((es.drop off).take cap) olds ∧ ∀ (j : Nat) u, olds[j]? = some u → w.cell? ((⟨b, off * i.size, none⟩ : Addr).add j) = some u := by
            by_cases h0 : (es.drop off).take cap = []
            ·rw [h0]; exact ⟨[], ⟨by simp, by simp, fun i j x y u h => by simp at h⟩, fun j u h => by simp at h⟩
            ·obtain ⟨sa, olds, hsa, hol, hocell⟩ := hscells h0
             rw [hsa] at hveq
             simp only [Value.slice.injEq, Option.some.injEq] at hveq
             obtain ⟨rfl, _, _⟩ := hveq
             exact ⟨olds, hol, hocell⟩
           obtain ⟨olds, hol, hocell⟩ := hold
           have hrun := hgrowL ⟨b, off * i.size, none⟩ cap cap olds (by rw [k7, hol.len, hel]) hocell (by omega) (by omega)
            (growslice_fits (by omega) (by rw [k8]; omega))
           obtain ⟨β', e1, e2, e3⟩ := grown_own (DR := DR) hi (by omega) (ss.append sx) (Laid.append sx ss hol hlaid) hzs (cap + (x0 :: xr).length) cap e (by simp only [List.length_append, hel]) (by omega)
           have ea : (olds ++ news).toArray = olds.toArray ++ news.toArray := by simp
           rw [ea] at e1 e2 e3
           exact ⟨_, _, S, β', hrun, e1, e2, e3⟩
         ·rename_i hfull
          split at hd
          ·rename_i hoff
           subst hoff
           obtain ⟨rfl, rfl⟩ := Prod.mk.inj (Option.some.inj hd)
           simp only [hfull, if_false, Nat.sub_zero, Bool.false_eq_true] at hcap
           subst hcap
           simp only [Nat.zero_mul, List.drop_zero, Nat.zero_add] at *
           have hsmall : Solid i.size (es.take len) := by simpa using ss
           by_cases hx0 : xs = []
           ·subst hx0
            have hrun := hzero rfl (some ⟨b, 0, none⟩) len cap hlc
            obtain ⟨e1, e2⟩ := own_write (DR := DR) (o' := .row i.size (es.take len)) hi hes rfl hb rfl (fun _ _ => rfl) rfl rfl rfl (Nat.le_refl _) rfl (fun hk => ⟨rfl, o2, o3, by simp; omega, hsmall, cur, e', o6, o7, fun i' j x y v' h1 h2 h3 => by
             rw [List.getElem?_take] at h1
             split at h1
             ·exact o8 i' j x y v' h1 h2 h3
             ·cases h1⟩)
            obtain ⟨e3, e4⟩ := e2.move (DR := DR) (r := r) (o := .row i.size (es.take len)) (by rw [List.getElem?_set]; simp [lt_of_getElem? hes]) rfl hb
            rw [List.set_set] at e4
            refine ⟨_, w, S, _, hrun, e1.trans e3, by simpa using e4, ?_⟩
            exact .osl _ 0 len b cap i.size 0 cap false (by rw [← hi.len]; simp) (by omega) (by simp) (by simp)
           ·obtain ⟨news, hlaid, hroomL, hgrowL, hnilL⟩ := hcells hx0
            have hnl : news.length = xs.length * info'.size := by rw [k7]; exact hlaid.len
            by_cases hroom : len + xs.length ≤ cap
            ·-- it fits
             have hfit : len * i.size + news.length ≤ cur.size := by rw [hlaid.len, o7, ← Nat.add_mul]; exact Nat.mul_le_mul_right _ hroom
             have hrun := hroomL o6 hroom (by rw [k7]; exact hfit)
             rw [k7] at hrun
             have hsol2 := hsmall.append sx
             obtain ⟨e1, e2⟩ := own_write (DR := DR) (o' := .row i.size (es.take len ++ xs)) (w' := w.setRow b (spliceA cur (len * i.size) news)) hi hes rfl hb (by simp) (fun j hj => setRow_other w b j _ hj) rfl rfl rfl (Nat.le_refl _) rfl
              (fun hk => ⟨rfl, o2, o3, by simp; omega, hsol2, _, e', setRow_heap w b cur _ e' _ o6, by rw [spliceA_size hfit]; exact o7, fun i' j x y v' h1 h2 h3 => by
               have hj := lt_of_getElem? h2
               rw [(hsol2 i' x h1).2] at hj
               rw [spliceA_get hfit] at h3
               refine RelV.mono hk ?_
               by_cases hi' : i' < len
               ·have h4 := mul_lt_of (k := i.size) hi' hj
                rw [if_neg (by omega)] at h3
                rw [List.getElem?_append_left (by simp; omega), List.getElem?_take, if_pos hi'] at h1
                exact o8 i' j x y v' h1 h2 h3
               ·have h5 : len * i.size ≤ i' * i.size := Nat.mul_le_mul_right _ (by omega)
                rw [List.getElem?_append_right (by simp; omega)] at h1
                have hmin : (es.take len).length = len := by simp; omega
                rw [hmin] at h1
                have h6 := mul_lt_of (k := i.size) (lt_of_getElem? h1) hj
                have e5 : i' * i.size + j - len * i.size = (i' - len) * i.size + j := by rw [Nat.sub_mul]; omega
                rw [if_pos (by rw [hlaid.len]; rw [Nat.sub_mul] at h6; omega), e5] at h3
                exact hlaid.rel (i' - len) j x y v' h1 h2 h3⟩)
             obtain ⟨e3, e4⟩ := e2.move (DR := DR) (r := r) (o := .row i.size (es.take len ++ xs)) (by rw [List.getElem?_set]; simp [lt_of_getElem? hes]) rfl hb
             rw [List.set_set] at e4
             refine ⟨_, _, S, _, hrun, e1.trans e3, e4, ?_⟩
             exact .osl _ 0 (len + xs.length) b cap i.size 0 cap false (by rw [← hi.len]; simp) (by omega) (by simp) (by simp)
            ·-- it grows
             have hold : ∃ olds, Laid S w i.size (es.take len) olds ∧ ∀ (j : Nat) u, olds[j]? = some u → w.cell? ((⟨b, 0, none⟩ : Addr).add j) = some u := by
              by_cases h0 : es.take len = []
              ·rw [h0]; exact ⟨[], ⟨by simp, by simp, fun i j x y u h => by simp at h⟩, fun j u h => by simp at h⟩
              ·obtain ⟨sa, olds, hsa, hol, hocell⟩ := hscells (by simpa using h0)
               rw [hsa] at hveq
               simp only [Value.slice.injEq, Option.some.injEq] at hveq
               obtain ⟨rfl, _, _⟩ := hveq
               exact ⟨olds, by simpa using hol, hocell⟩
             obtain ⟨olds, hol, hocell⟩ := hold
             have htl : (es.take len).length = len := by simp; omega
             have hrun := hgrowL ⟨b, 0, none⟩ len cap olds (by rw [k7, hol.len, htl]) hocell (by omega) (by omega)
              (growslice_fits (by omega) (by rw [k8]; omega))
             obtain ⟨β', e1, e2, e3⟩ := grown_own (DR := DR) (hi.kill r) (by omega) (hsmall.append sx) (Laid.append sx hsmall hol hlaid) hzs (len + xs.length) cap e (by simp only [List.length_append, htl]) (by omega)
             have ea : (olds ++ news).toArray = olds.toArray ++ news.toArray := by simp
             rw [ea] at e1 e2 e3
             refine ⟨_, _, S, β', hrun, e1, e2, by simpa using e3⟩
          ·cases hd
        ·cases hd
       ·-- cells that lead to own memory
        rename_i k' cs hes
        split at hd
        ·rename_i hcond
         obtain ⟨rfl, rfl, rfl, hcl, hb1, hb2⟩ := hcond
         obtain ⟨rfl, rfl⟩ := Prod.mk.inj (Option.some.inj hd)
         cases hv with
         | osl r off len b c k' p cap full hb hlen hp hcap =>
         obtain ⟨o1, o2, o3, o4, cur, e', o6, o7, o8⟩ := hi.obj r _ b c _ hes hb
         subst o1
         simp only [Nat.zero_mul] at hp
         subst hp
         simp only [Bool.false_eq_true, if_false, Nat.sub_zero] at hcap
         subst hcap
         simp only [Nat.zero_add] at hlen
         have hb2' : len + xs.length ≤ 9223372036854775807 := by unfold maxLen at hb2; omega
         obtain ⟨f1, f2⟩ := flat_cell o2 sx
         have hml : (cs.map D.unt).length = len * i.size := by rw [List.length_map, hcl]
         have hold : ∀ (j : Nat) v' d', cur[j]? = some v' → (cs.map D.unt)[j]? = some d' → RelD S β w v' d' := fun j v' d' h1 h2 => by
          rw [List.getElem?_map] at h2
          obtain ⟨d0, h3, rfl⟩ := Option.map_eq_some_iff.1 h2
          exact (o8 j v' d0 h1 h3).unt
         by_cases hx0 : xs = []
         ·subst hx0
          have hrun := hzero rfl (some ⟨b, 0, none⟩) len cap hlen
          obtain ⟨e1, e2⟩ := own_write (DR := DR) (o' := .grid i.size (cs.map D.unt)) hi hes rfl hb rfl (fun _ _ => rfl) rfl rfl rfl (Nat.le_refl _) rfl (fun hk => ⟨rfl, o2, o3, by rw [List.length_map]; exact o4, cur, e', o6, o7, hold⟩)
          obtain ⟨e3, e4⟩ := e2.move (DR := DR) (r := r) (o := .grid i.size (cs.map D.unt)) (by rw [List.getElem?_set]; simp [lt_of_getElem? hes]) rfl hb
          rw [List.set_set] at e4
          refine ⟨_, w, S, _, hrun, e1.trans e3, by simpa using e4, ?_⟩
          exact .osl _ 0 len b cap i.size 0 cap false (by rw [← hi.len]; simp) (by omega) (by simp) (by simp)
         ·obtain ⟨news, hlaid, hroomL, hgrowL, hnilL⟩ := hcells hx0
          have hnl : news.length = xs.length * info'.size := by rw [k7]; exact hlaid.len
          have hnew : ∀ (q : Nat) v' d', news[q]? = some v' → ((xs.flatMap V.cells).map D.v)[q]? = some d' → RelD S β w v' d' := fun q v' d' h1 h2 => by
           rw [List.getElem?_map] at h2
           obtain ⟨y, h3, rfl⟩ := Option.map_eq_some_iff.1 h2
           obtain ⟨i', j', x', g1, g2, rfl⟩ := f2 q y h3
           exact .v _ _ (hlaid.rel i' j' x' y v' g1 g2 h1)
          have hcl2 : (cs.map D.unt ++ (xs.flatMap V.cells).map D.v).length = (len + xs.length) * i.size := by
           rw [List.length_append, hml, List.length_map, f1, Nat.add_mul]
          by_cases hroom : len + xs.length ≤ cap
          ·have hfit : len * i.size + news.length ≤ cur.size := by rw [hlaid.len, o7, ← Nat.add_mul]; exact Nat.mul_le_mul_right _ hroom
           have hrun := hroomL o6 hroom (by rw [k7]; exact hfit)
           rw [k7] at hrun
           obtain ⟨e1, e2⟩ := own_write (DR := DR) (o' := .grid i.size (cs.map D.unt ++ (xs.flatMap V.cells).map D.v)) (w' := w.setRow b (spliceA cur (len * i.size) news)) hi hes rfl hb (by simp) (fun j hj => setRow_other w b j _ hj) rfl rfl rfl (Nat.le_refl _) rfl
            (fun hk => ⟨rfl, o2, o3, by rw [hcl2]; exact Nat.mul_le_mul_right _ hroom, _, e', setRow_heap w b cur _ e' _ o6, by rw [spliceA_size hfit]; exact o7, fun j v' d' h1 h2 => by
             rw [spliceA_get hfit] at h1
             refine RelD.mono hk (fun _ _ h => h) ?_
             rcases Nat.lt_or_ge j (len * i.size) with g | g
             ·rw [if_neg (by omega)] at h1
              rw [List.getElem?_append_left (by omega)] at h2
              exact hold j v' d' h1 h2
             ·rw [List.getElem?_append_right (by omega), hml] at h2
              have h5 := lt_of_getElem? h2
              rw [List.length_map, f1] at h5
              rw [if_pos (by rw [hlaid.len]; omega)] at h1
              exact hnew _ v' d' h1 h2⟩)
           obtain ⟨e3, e4⟩ := e2.move (DR := DR) (r := r) (o := .grid i.size (cs.map D.unt ++ (xs.flatMap V.cells).map D.v)) (by rw [List.getElem?_set]; simp [lt_of_getElem? hes]) rfl hb
           rw [List.set_set] at e4
           refine ⟨_, _, S, _, hrun, e1.trans e3, e4, ?_⟩
           exact .osl _ 0 (len + xs.length) b cap i.size 0 cap false (by rw [← hi.len]; simp) (by omega) (by simp) (by simp)
          ·have hol : (cur.toList.take (len * i.size)).length = len * i.size := by
            rw [List.length_take, Array.length_toList, o7]
            exact Nat.min_eq_left (Nat.mul_le_mul_right _ hlen)
           have hrun := hgrowL ⟨b, 0, none⟩ len cap (cur.toList.take (len * i.size)) (by rw [k7, hol]) (fun j u hu => by
             rw [Addr.add_lit, cell_own o6]
             rw [List.getElem?_take] at hu
             split at hu
             ·simpa using hu
             ·cases hu) (by omega) (by omega)
            (growslice_fits (by omega) (by rw [k8]; omega))
           obtain ⟨β', e1, e2, e3⟩ := grown_grid (DR := DR) (hi.kill r) o2 (cs := cs.map D.unt ++ (xs.flatMap V.cells).map D.v) (all := cur.toList.take (len * i.size) ++ news) (len + xs.length) cap e (by rw [List.length_append, hol, hlaid.len, Nat.add_mul]) hcl2 (fun j v' d' h1 h2 => by
            rcases Nat.lt_or_ge j (len * i.size) with g | g
            ·rw [List.getElem?_append_left (by omega), List.getElem?_take, if_pos g] at h1
             rw [List.getElem?_append_left (by omega)] at h2
             exact hold j v' d' (by simpa using h1) h2
            ·rw [List.getElem?_append_right (by omega), hol] at h1
             rw [List.getElem?_append_right (by omega), hml] at h2
             exact hnew _ v' d' h1 h2) hzs (by omega)
           have ea : (cur.toList.take (len * i.size) ++ news).toArray = (cur.toList.take (len * i.size)).toArray ++ news.toArray := by simp
           rw [ea] at e1 e2 e3
           refine ⟨_, _, S, β', hrun, e1, e2, by simpa using e3⟩
        ·cases hd
       ·cases hd
      ·cases hd
  ·cases hd
theorem append_sound {P : Program} {T : Nat → Option TI} (hT : ∀ t i, T t = some i → tiOf P t = some i) {S : Nat → Nat → Prop} {β : Blocks} {w : World} {h h' : List AObj} (hi : HInv S β w h) {rowM : Bool} {t ty : Nat} {s x d : D}
  (hd : appendD T rowM t h s x = some (d, h')) {v u : Value} (hv : RelD S β w v s) (hu : RelD S β w u x) :
  ∃ y w' S' β', (Builtin.append_ #[t, t] ty #[v, u]).run P w = .ok y w' ∧ Ext DR S β w S' β' w' ∧ HInv S' β' w' h' ∧ RelD S' β' w' y d := by
 refine append_core hT hi hd hv fun e i info z xs g2 k1 k3 k7 hxs => ?_
 obtain ⟨sx, base', c', rfl, hc', hm', hcells, hxf⟩ := elemsOf_sound hi hxs hu.unt
 refine ⟨sx, fun h0 base n c hn => ?_, fun h0 => ?_⟩
 ·subst h0
  exact run_append_zero g2 k1 base base' n c c' hn w
 ·obtain ⟨a, news, rfl, hlaid, hncell⟩ := hcells h0
  have hnl : news.length = xs.length * info.size := by rw [k7]; exact hlaid.len
  have hxl : 0 < xs.length := by cases xs with
   | nil => exact absurd rfl h0
   | cons y r => simp
  refine ⟨news, hlaid, fun {g sLen sCap cur e'} hg hroom hfit => append_room g2 k1 hg a xs.length c' news hnl hncell hlaid.one hroom hfit,
   fun b sLen sCap olds hlo ho hlt h63 hfit => run_append_grow (P := P) w t ty e info z g2 k1 k3 b sLen sCap olds hlo ho a xs.length c' news hnl hncell hlt h63 hfit,
   fun h63 h48 => run_append_nil w t ty e info z g2 k1 k3 a _ c' news hnl hncell hxl h63 h48⟩
theorem bytesV_laid (S : Nat → Nat → Prop) (w : World) (b : ByteArray) : Solid 1 (bytesV b) ∧ Laid S w 1 (bytesV b) (Lib.strCells b) := by
 have hl : (bytesV b).length = b.size := by simp [bytesV]
 refine ⟨fun i x hx => ?_, ⟨by rw [Lib.strCells_length, hl, Nat.mul_one], fun u hu => Lib.strCells_oneCell b u hu, fun i j x y u h1 h2 h3 => ?_⟩⟩
 ·obtain ⟨c, _, rfl⟩ := List.mem_map.1 (List.mem_of_getElem? hx)
  exact ⟨rfl, rfl⟩
 ·simp only [bytesV, List.getElem?_map, Option.map_eq_some_iff] at h1
  obtain ⟨c, hc, rfl⟩ := h1
  have hj := lt_of_getElem? h2
  have : j = 0 := by simp [V.cells] at hj; exact hj
  subst this
  cases h2
  simp only [Lib.strCells, List.getElem?_map, Nat.mul_one, Nat.add_zero, hc, Option.map_some, Option.some.injEq] at h3
  subst h3
  exact .int _ _
theorem append_str_sound {P : Program} {T : Nat → Option TI} (hT : ∀ t i, T t = some i → tiOf P t = some i) {S : Nat → Nat → Prop} {β : Blocks} {w : World} {h h' : List AObj} (hi : HInv S β w h) {rowM : Bool} {t t' ty : Nat} {s x d : D}
  (hd : appendStrD T rowM t t' h s x = some (d, h')) {v u : Value} (hv : RelD S β w v s) (hu : RelD S β w u x) :
  ∃ y w' S' β', (Builtin.append_ #[t, t'] ty #[v, u]).run P w = .ok y w' ∧ Ext DR S β w S' β' w' ∧ HInv S' β' w' h' ∧ RelD S' β' w' y d := by
 unfold appendStrD at hd
 split at hd <;> try (cases hd; done)
 rename_i i' b hti'
 split at hd <;> try (cases hd; done)
 rename_i hk'
 obtain ⟨_, desc, _, _, g2', _, _, g5', _⟩ := tiOf_spec (hT _ _ hti')
 rw [hk'] at g5'
 have hdesc := tkOf_str g5'
 subst hdesc
 cases hu with
 | v _ _ hu => cases hu with
 | str b =>
 refine append_core hT hi hd hv fun e i info z xs g2 k1 k3 k7 hxs => ?_
 have hb := bytesV_laid S w b
 have hbl : (bytesV b).length = b.size := by simp [bytesV]
 simp only [D.unt, elemsOf] at hxs
 split at hxs <;> try (cases hxs; done)
 rename_i hh
 cases hxs
 by_cases h0 : bytesV b = []
 ·refine ⟨fun i x hx => by rw [h0] at hx; simp at hx, fun _ base n c hn => ?_, fun h => absurd h0 h⟩
  have hz : b.size = 0 := by rw [← hbl, h0]; rfl
  have hf := Lib.run_firstCells_string (P := P) w info.size b
  have hc : Lib.strCells b = [] := List.eq_nil_of_length_eq_zero (by rw [Lib.strCells_length, hz])
  rw [hz] at hf
  cases base <;> simp [Builtin.append_, run_underlying g2, run_underlying g2', run_sizeOf k1, Builtin.lenOf, hz, hn, hf, hc, storeCells]
 ·have h1 : i.size = 1 := by
   cases hbv : bytesV b with
   | nil => exact absurd hbv h0
   | cons y r =>
    rw [hbv] at hh
    simp only [headOk, beq_iff_eq] at hh
    rw [← hh]
    exact (hb.1 0 y (by rw [hbv]; rfl)).2
  rw [h1] at k7 ⊢
  refine ⟨hb.1, fun h => absurd h h0, fun _ => ⟨_, hb.2, fun {g sLen sCap cur e'} hg hroom hfit => ?_, fun a sLen sCap olds hlo ho hlt h63 hfit => ?_, fun h63 h48 => ?_⟩⟩
  ·rw [hbl] at hroom ⊢
   rw [k7, Nat.mul_one] at hfit ⊢
   have hf := Lib.run_firstCells_string (P := P) w 1 b
   have hst := run_store_own (P := P) (w := w) (off := sLen) (vs := Lib.strCells b) hg hfit (Lib.strCells_oneCell b)
   simp [Builtin.append_, run_underlying g2, run_underlying g2', run_sizeOf k1, k7, Builtin.lenOf, hroom, hf, Addr.add_lit, hst]
  ·rw [hbl] at hlt h63 hfit ⊢
   exact Lib.run_append_grow_string (P := P) w t t' ty e info z g2 g2' k1 k3 a sLen sCap olds hlo ho b hlt h63 hfit
  ·rw [hbl] at h63 h48 ⊢
   have := run_append_nil_string (P := P) w t t' ty e info z g2 g2' k1 k3 b (by rw [← hbl]; exact List.length_pos_iff.2 h0) h63 h48
   have ea : (Lib.strCells b).toArray = b.data.map fun b => Value.int .u8 b.toNat := by apply Array.ext'; simp [Lib.strCells]
   rw [this, ea]
theorem natOf_spec {S : Nat → Nat → Prop} {β : Blocks} {w : World} {v : Value} {d : D} {n : Nat} (h : natOf d = some n) (hv : RelD S β w v d) : ∃ k, v = .int k n := by
 unfold natOf at h
 split at h
 ·split at h
  ·cases h
   cases hv.of_v
   exact ⟨_, by congr 1; omega⟩
  ·cases h
 ·cases h
theorem run_bound {P : Program} {w : World} (k : IntKind) (n y : Nat) (c : BoundsCode) (h : n ≤ y) : (Instr.sliceBound (.int k n) y c).run P w = .ok n w := by
 simp only [Instr.sliceBound, asIntOf, Sem.run_bind, Sem.run_pure, Result.andThen_ok]
 rw [if_pos (by omega)]
 simp
def RelO (S : Nat → Nat → Prop) (β : Blocks) (w : World) (v : Option Value) (d : Option D) : Prop := match v, d with
 | none, none => True
 | some v, some d => RelD S β w v d
 | _, _ => False
theorem bounds_sound {P : Program} {S : Nat → Nat → Prop} {β : Blocks} {w : World} (isSlice : Bool) {len cap : Nat} (hlc : len ≤ cap) {lo hi mx : Option D} {vlo vhi vmx : Option Value} {l h : Nat} {m : Option Nat}
  (hb : boundsD len lo hi mx = some (l, h, m)) (h1 : RelO S β w vlo lo) (h2 : RelO S β w vhi hi) (h3 : RelO S β w vmx mx) :
  (Instr.sliceBounds isSlice len cap vlo vhi vmx).run P w = .ok (l, h, m.getD cap) w ∧ l ≤ h ∧ h ≤ m.getD cap ∧ m.getD cap ≤ cap ∧ h ≤ len := by
 unfold boundsD at hb
 split at hb
 ·rename_i l' h' hl hh
  split at hb
  ·cases hb
   cases vmx with
   | some _ => exact h3.elim
   | none =>
   have hhr : ∀ (code : BoundsCode), (match vhi with | some v => Instr.sliceBound v cap code | none => pure len : Sem Nat).run P w = .ok h w := by
    intro code
    cases hi with
    | none => cases vhi with
     | none => simp [natOr] at hh; subst hh; rfl
     | some _ => exact h2.elim
    | some d => cases vhi with
     | none => exact h2.elim
     | some v => obtain ⟨k, rfl⟩ := natOf_spec hh h2; exact run_bound k h cap code (by omega)
   have hlr : ∀ (code : BoundsCode), (match vlo with | some v => Instr.sliceBound v h code | none => pure 0 : Sem Nat).run P w = .ok l w := by
    intro code
    cases lo with
    | none => cases vlo with
     | none => simp [natOr] at hl; subst hl; rfl
     | some _ => exact h1.elim
    | some d => cases vlo with
     | none => exact h1.elim
     | some v => obtain ⟨k, rfl⟩ := natOf_spec hl h1; exact run_bound k l h code (by omega)
   refine ⟨?_, by omega, by simp; omega, by simp, by omega⟩
   simp only [Instr.sliceBounds, Sem.run_bind, Sem.run_pure, Result.andThen_ok, Option.isSome_none]
   have e1 := hhr (if isSlice = true then .sliceAcap else .sliceAlen)
   have e2 := hlr .sliceB
   cases vhi <;> cases vlo <;> simp_all
  ·cases hb
 ·rename_i l' h' m0 hl hh
  split at hb
  ·rename_i m' dh hm
   split at hb
   ·rename_i hc
    cases hb
    cases vmx with
    | none => exact h3.elim
    | some vm =>
     obtain ⟨km, rfl⟩ := natOf_spec hm h3
     cases vhi with
     | none => exact h2.elim
     | some vh =>
      obtain ⟨kh, rfl⟩ := natOf_spec (show natOf dh = some h from hh) h2
      have hlr : ∀ (code : BoundsCode), (match vlo with | some v => Instr.sliceBound v h code | none => pure 0 : Sem Nat).run P w = .ok l w := by
       intro code
       cases lo with
       | none => cases vlo with
        | none => simp [natOr] at hl; subst hl; rfl
        | some _ => exact h1.elim
       | some d => cases vlo with
        | none => exact h1.elim
        | some v => obtain ⟨k, rfl⟩ := natOf_spec hl h1; exact run_bound k l h code (by omega)
      refine ⟨?_, by omega, by simp; omega, by simp; omega, by omega⟩
      simp only [Instr.sliceBounds, Sem.run_bind, run_bound km m' cap _ (show m' ≤ cap by omega), Result.andThen_ok, run_bound kh h m' _ (show h ≤ m' by omega), Option.isSome_some, if_true, Option.getD_some]
      have e2 := hlr .slice3C
      cases vlo <;> simp_all
   ·cases hb
  ·cases hb
 ·cases hb
theorem cutRow_sound {DR : Prop} {P : Program} {T : Nat → Option TI} (hT : ∀ t i, T t = some i → tiOf P t = some i) {S : Nat → Nat → Prop} {β : Blocks} {w : World} {hp h' : List AObj} (hi : HInv S β w hp) {t : Nat} {x : D} {lo hig mx : Option D} {d : D}
  (hd : cutRowD T hp t x lo hig mx = some (d, h')) {v : Value} {vlo vhi vmx : Option Value} (hv : RelD S β w v x) (h1 : RelO S β w vlo lo) (h2 : RelO S β w vhi hig) (h3 : RelO S β w vmx mx) :
  ∃ y, (Instr.sliceAt t v vlo vhi vmx).run P w = .ok y w ∧ Ext DR S β w S β w ∧ HInv S β w h' ∧ RelD S β w y d := by
 unfold cutRowD at hd
 split at hd
 ·rename_i r len dj
  split at hd
  ·cases hd
  ·rename_i ti hti
   obtain ⟨info, desc, z, g1, g2, g3, g4, g5, g6, g7, g8, _⟩ := tiOf_spec (hT _ _ hti)
   split at hd
   ·rename_i e j k es hk hj hes
    rw [hk] at g5
    have := tkOf_slice g5
    subst this
    split at hd
    ·rename_i hc
     obtain ⟨hsz, hjl⟩ := hc
     obtain ⟨rfl, rfl⟩ := Prod.mk.inj (Option.some.inj hd)
     unfold sizeT at hsz
     obtain ⟨i, hie, rfl⟩ := Option.map_eq_some_iff.1 hsz
     obtain ⟨info', desc', z', k1, k2, k3, k4, k5, k6, k7, k8, _⟩ := tiOf_spec (hT _ _ hie)
     cases hv with
     | osl r off len b c k p cap full hbb hlen hpp hcap =>
     simp only [Bool.false_eq_true, if_false, Nat.sub_zero] at hcap
     subst hcap
     have hob := hi.obj r _ b cap k hes hbb
     obtain ⟨o1, o2, o3, o4, o5, cur, et, o6, o7, o8⟩ := hob
     subst o1
     have hb : boundsD len none (some dj) none = some (0, j, none) := by
      simp [boundsD, natOr, hj, hjl]
     obtain ⟨hrb, hl1, hl2, hl3, hl4⟩ := bounds_sound (P := P) true (show len ≤ cap by omega) hb h1 h2 h3
     have hrun : (Instr.sliceAt t (.slice (some ⟨b, p, none⟩) len cap) vlo vhi vmx).run P w = .ok (.slice (some ⟨b, p, none⟩) j cap) w := by
      simp only [Instr.sliceAt, Sem.run_bind, run_underlying g2, Result.andThen_ok, Instr.slice, hrb, run_sizeOf k1, k7, Sem.run_pure, Option.map_some, Addr.add_lit, Nat.zero_mul, Nat.add_zero, Nat.sub_zero, Option.getD_none, ite_self]
     obtain ⟨e1, e2⟩ := own_write (DR := DR) (w' := w) (o' := .row i.size (es.take j)) hi hes rfl hbb rfl (fun _ _ => rfl) rfl rfl rfl (Nat.le_refl _) rfl fun _ =>
      ⟨rfl, o2, o3, by rw [List.length_take]; omega, fun q x hx => o5 q x (by rw [List.getElem?_take] at hx; split at hx; exact hx; cases hx), cur, et, o6, o7,
       fun q j' x y v hx => o8 q j' x y v (by rw [List.getElem?_take] at hx; split at hx; exact hx; cases hx)⟩
     exact ⟨_, hrun, e1, e2, .osl r 0 j b cap i.size p cap false hbb (by omega) hpp (by simp)⟩
    ·cases hd
   ·cases hd
 ·cases hd
theorem slice_sound {P : Program} {T : Nat → Option TI} (hT : ∀ t i, T t = some i → tiOf P t = some i) {S : Nat → Nat → Prop} {β : Blocks} {w : World} {hp : List AObj} (hi : HInv S β w hp) {t : Nat} {x : D} {lo hig mx : Option D} {d : D}
  (hd : sliceD T hp t x lo hig mx = some d) {v : Value} {vlo vhi vmx : Option Value} (hv : RelD S β w v x) (h1 : RelO S β w vlo lo) (h2 : RelO S β w vhi hig) (h3 : RelO S β w vmx mx) :
  ∃ y, (Instr.sliceAt t v vlo vhi vmx).run P w = .ok y w ∧ RelD S β w y d := by
 unfold sliceD at hd
 split at hd
 ·cases hd
 ·rename_i ti hti
  obtain ⟨info, desc, z, g1, g2, g3, g4, g5, g6, g7, g8, _⟩ := tiOf_spec (hT _ _ hti)
  split at hd
  ·-- a string
   rename_i s hk
   rw [hk] at g5
   have := tkOf_str g5
   subst this
   split at hd
   ·rename_i l h hb
    cases hd
    have hvv := hv.of_v
    cases hvv
    obtain ⟨hr, hl1, hl2, hl3, hl4⟩ := bounds_sound (P := P) false (Nat.le_refl s.size) hb h1 h2 h3
    have hm : vmx = none := by
     cases vmx with
     | none => rfl
     | some _ =>
      cases mx with
      | none => exact h3.elim
      | some _ =>
       unfold boundsD at hb
       split at hb
       ·rename_i hmx; cases hmx
       ·split at hb
        ·split at hb <;> cases hb
        ·cases hb
       ·cases hb
    subst hm
    refine ⟨.string (s.extract l h), ?_, .v _ _ (.str _)⟩
    simp only [Instr.sliceAt, Sem.run_bind, run_underlying g2, Result.andThen_ok, Instr.slice, Option.isSome_none, Bool.false_eq_true, if_false, hr, Sem.run_pure]
   ·cases hd
  ·-- a value
   rename_i e fl es hk
   rw [hk] at g5
   have := tkOf_slice g5
   subst this
   split at hd
   ·rename_i l h m k hb hsz
    split at hd
    ·rename_i hho
     cases hd
     unfold sizeT at hsz
     obtain ⟨i, hie, rfl⟩ := Option.map_eq_some_iff.1 hsz
     obtain ⟨info', desc', z', k1, k2, k3, k4, k5, k6, k7, k8, _⟩ := tiOf_spec (hT _ _ hie)
     have hrun : ∀ (base : Option Addr) (cap : Nat), es.length ≤ cap → (Instr.sliceAt t (.slice base es.length cap) vlo vhi vmx).run P w =
       .ok (.slice (if m.getD cap = l then base else base.map (·.add (l * i.size))) (h - l) (m.getD cap - l)) w := by
      intro base cap hc
      have hr := (bounds_sound (P := P) true hc hb h1 h2 h3).1
      simp only [Instr.sliceAt, Sem.run_bind, run_underlying g2, Result.andThen_ok, Instr.slice, hr, run_sizeOf k1, k7, Sem.run_pure]
     have hfullcap : ∀ cap : Nat, es.length ≤ cap → (fl.isFull = true → cap = es.length) → fullTo fl.isFull es.length h m = true → m.getD cap = h := by
      intro cap hc hf hfull
      cases m with
      | none => simp [fullTo] at hfull; have := hf hfull.1; simp; omega
      | some m => simpa [fullTo] using hfull
     have hflag : (if fullTo fl.isFull es.length h m = true then SFlag.full else SFlag.plain).isNil ≠ some true := by split <;> decide
     have hflag' : (if fullTo fl.isFull es.length h m = true then SFlag.full else SFlag.plain).isFull = true → fullTo fl.isFull es.length h m = true := by
      intro hh
      split at hh
      ·assumption
      ·cases hh
     have hvv := hv.of_v
     generalize hes : V.sl fl es = vsl at hvv
     cases hvv <;> try (cases hes; done)
     ·-- nil
      cases hes
      obtain ⟨hr, hl1, hl2, hl3, hl4⟩ := bounds_sound (P := P) true (Nat.le_refl 0) (len := 0) (cap := 0) (by simpa using hb) h1 h2 h3
      have hl0 : l = 0 := by simp at hl4; omega
      have hh0 : h = 0 := by simpa using hl4
      subst hl0 hh0
      refine ⟨_, hrun none 0 (Nat.le_refl _), .v _ _ ?_⟩
      have : m.getD 0 = 0 := by omega
      simp only [this, if_true, Nat.sub_self, List.drop_nil, List.take_nil]
      exact .slnil _ (by split <;> decide)
     ·-- empty
      rename_i fl' a cap hn hf hm
      cases hes
      obtain ⟨hr, hl1, hl2, hl3, hl4⟩ := bounds_sound (P := P) true (Nat.zero_le cap) (len := 0) (cap := cap) (by simpa using hb) h1 h2 h3
      have hl0 : l = 0 := by simp at hl4; omega
      have hh0 : h = 0 := by simpa using hl4
      subst hl0 hh0
      refine ⟨_, hrun (some a) cap (Nat.zero_le _), .v _ _ ?_⟩
      simp only [List.drop_nil, List.take_nil, Nat.sub_zero, Nat.zero_mul, Option.map_some, Addr.add_zero', ite_self]
      exact .slemp _ a _ hflag (fun hh => by have := hfullcap cap (Nat.zero_le _) (by simpa using hf) (hflag' hh); omega) (by omega)
     ·rename_i fl' b off cap k' n es' vals hn hnil hf hc hm hsol hs hr
      cases hes
      subst hn
      obtain ⟨hrb, hl1, hl2, hl3, hl4⟩ := bounds_sound (P := P) true hc hb h1 h2 h3
      refine ⟨_, hrun (some ⟨b, off, none⟩) cap hc, .v _ _ ?_⟩
      have hlen : ((es.drop l).take (h - l)).length = h - l := by simp; omega
      by_cases heq : h - l = 0
      ·have hempty : (es.drop l).take (h - l) = [] := by rw [heq]; rfl
       rw [hempty, heq]
       have hcap0 : (if fullTo fl.isFull es.length h m = true then SFlag.full else SFlag.plain).isFull = true → m.getD cap - l = 0 := fun hh => by have := hfullcap cap hc hf (hflag' hh); omega
       split
       ·exact .slemp _ _ _ hflag hcap0 (by omega)
       ·exact .slemp _ _ _ hflag hcap0 (by omega)
      ·have hml : ¬ m.getD cap = l := by omega
       simp only [hml, if_false, Option.map_some, Addr.add_lit]
       have hkk : k' = i.size := by
        cases es with
        | nil => simp at hl4; omega
        | cons x0 r => rw [← (hsol 0 x0 rfl).2]; simpa [headOk] using hho
       subst hkk
       refine .sl _ b (off + l * i.size) _ i.size (h - l) _ (fun q => vals (l * i.size + q)) hlen.symm hflag (fun hh => by have := hfullcap cap hc hf (hflag' hh); omega) (by omega) (by omega) (fun q x hx => ?_) (fun q j hq hj => ?_) (fun q j x y hx hy => ?_)
       ·rw [List.getElem?_take] at hx
        split at hx
        ·rw [List.getElem?_drop] at hx; exact hsol _ x hx
        ·cases hx
       ·have := hs (l + q) j (by omega) hj
        rw [Nat.add_mul] at this
        have e1 : off + l * i.size + (q * i.size + j) = off + (l * i.size + q * i.size + j) := by omega
        have e2 : l * i.size + (q * i.size + j) = l * i.size + q * i.size + j := by omega
        rw [e1, e2]
        exact this
       ·rw [List.getElem?_take] at hx
        split at hx
        ·rw [List.getElem?_drop] at hx
         have := hr (l + q) j x y hx hy
         rw [Nat.add_mul, Nat.add_assoc] at this
         exact this
        ·cases hx
    ·cases hd
   ·cases hd
  ·-- an own slice
   rename_i e r off len full hk
   rw [hk] at g5
   have := tkOf_slice g5
   subst this
   split at hd
   ·rename_i l h m k hb hsz
    split at hd
    ·rename_i hsh
     unfold sizeT at hsz
     obtain ⟨i, hie, rfl⟩ := Option.map_eq_some_iff.1 hsz
     obtain ⟨info', desc', z', k1, k2, k3, k4, k5, k6, k7, k8, _⟩ := tiOf_spec (hT _ _ hie)
     cases hv with
     | osl r off len b c k p cap full hbb hlen hpp hcap =>
     have hlc : len ≤ cap := by rw [hcap]; split <;> omega
     obtain ⟨hrb, hl1, hl2, hl3, hl4⟩ := bounds_sound (P := P) true hlc hb h1 h2 h3
     have hkk : k = i.size ∧ c ≤ maxLen := by
      unfold shapeOk at hsh
      split at hsh
      ·rename_i k' es hes
       obtain ⟨o1, o2, o3, _⟩ := hi.obj r _ b c k hes hbb
       rw [beq_iff_eq] at hsh
       exact ⟨by omega, o3⟩
      ·rename_i cs hcs
       obtain ⟨o1, o2, _⟩ := hi.obj r _ b c k hcs hbb
       rw [beq_iff_eq] at hsh
       exact ⟨by omega, o2⟩
      ·cases hsh
     obtain ⟨rfl, hcm⟩ := hkk
     subst hpp
     have hrun : (Instr.sliceAt t (.slice (some ⟨b, off * i.size, none⟩) len cap) vlo vhi vmx).run P w =
       .ok (.slice (if m.getD cap = l then some ⟨b, off * i.size, none⟩ else some ⟨b, off * i.size + l * i.size, none⟩) (h - l) (m.getD cap - l)) w := by
      simp only [Instr.sliceAt, Sem.run_bind, run_underlying g2, Result.andThen_ok, Instr.slice, hrb, run_sizeOf k1, k7, Sem.run_pure, Option.map_some, Addr.add_lit]
     have hcapm : cap ≤ maxLen := by rw [hcap]; split <;> omega
     have hfullcap : fullTo full len h m = true → m.getD cap = h := by
      intro hfull
      cases m with
      | none => simp [fullTo] at hfull; rw [if_pos hfull.1] at hcap; simp; omega
      | some m => simpa [fullTo] using hfull
     split at hd
     ·rename_i hlh
      rw [beq_iff_eq] at hlh
      cases hd
      subst hlh
      refine ⟨_, hrun, .v _ _ ?_⟩
      rw [Nat.sub_self]
      have hcap0 : (if fullTo full len l m = true then SFlag.full else SFlag.plain).isFull = true → m.getD cap - l = 0 := by
       intro hh
       split at hh
       ·rename_i hf; have := hfullcap hf; omega
       ·cases hh
      split <;> exact .slemp _ _ _ (by split <;> decide) hcap0 (by omega)
     ·rename_i hlh
      split at hd
      ·rename_i hmf
       cases hd
       refine ⟨_, hrun, ?_⟩
       have hne : l ≠ h := by simpa using hlh
       have hml : ¬ m.getD cap = l := by omega
       rw [if_neg hml]
       refine .osl r (off + l) (h - l) b c i.size _ _ _ hbb (by omega) (by rw [Nat.add_mul]) ?_
       cases hf : fullTo full len h m with
       | true => rw [hfullcap hf]; simp
       | false =>
        rw [hf] at hmf
        simp only [Bool.or_false] at hmf
        cases m with
        | some m => simp at hmf
        | none =>
         simp only [Option.getD_none, Bool.false_eq_true, if_false]
         cases full with
         | false => simp at hcap; omega
         | true => simp at hmf
      ·cases hd
    ·cases hd
   ·cases hd
  ·-- a beginning of an array of one's own
   rename_i n e r hk
   rw [hk] at g5
   have := tkOf_array g5
   subst this
   split at hd
   ·rename_i dj
    split at hd
    ·rename_i j cs hj hcs hsz
     split at hd
     ·rename_i hc
      obtain ⟨hjn, hcl⟩ := hc
      cases hd
      unfold sizeT at hsz
      obtain ⟨i, hie, hs1⟩ := Option.map_eq_some_iff.1 hsz
      obtain ⟨info', desc', z', k1, k2, k3, k4, k5, k6, k7, k8, _⟩ := tiOf_spec (hT _ _ hie)
      cases hv with
      | ptr r off b c k hbb =>
      obtain ⟨o1, o2, o3, _⟩ := hi.obj r _ b c k hcs hbb
      subst o1
      have hlo : vlo = none := by cases vlo with | none => rfl | some _ => exact h1.elim
      have hmx : vmx = none := by cases vmx with | none => rfl | some _ => exact h3.elim
      subst hlo hmx
      obtain ⟨u, rfl⟩ : ∃ u, vhi = some u := by cases vhi with | none => exact h2.elim | some u => exact ⟨u, rfl⟩
      have h2 : RelD S β w u dj := h2
      obtain ⟨kj, rfl⟩ := natOf_spec hj h2
      have ha : P.arrayLen t = n := by simp [Program.arrayLen, g2]
      have he : P.elem t = e := by simp [Program.elem, g2]
      refine ⟨.slice (some ⟨b, 0, none⟩) j n, ?_, .osl r 0 j b c 1 0 n false hbb (by omega) (by simp) (by simp; omega)⟩
      rw [run_sliceAt_array_h w t ⟨b, 0, none⟩ (by rw [g2, ha, he]) kj (j : Int) (by omega) (by rw [ha]; omega), he, run_sizeOf k1, ha]
      simp [slicedAt, Addr.add_lit]
     ·cases hd
    ·cases hd
   ·cases hd
  ·cases hd
variable {DR : Prop}
theorem makeSlice_sound {P : Program} {T : Nat → Option TI} (hT : ∀ t i, T t = some i → tiOf P t = some i) {S : Nat → Nat → Prop} {β : Blocks} {w : World} {h h' : List AObj} (hi : HInv S β w h) {t : Nat} {l c d : D}
  (hd : makeSliceD T t h l c = some (d, h')) {vl vc : Value} (h1 : RelD S β w vl l) (h2 : RelD S β w vc c) :
  ∃ y w' β', (Instr.makeSlice t vl vc).run P w = .ok y w' ∧ Ext DR S β w S β' w' ∧ HInv S β' w' h' ∧ RelD S β' w' y d := by
 unfold makeSliceD at hd
 split at hd
 ·cases hd
 ·rename_i ti hti
  split at hd
  ·rename_i e n cc hke hn hcc
   split at hd
   ·cases hd
   ·rename_i i hie
    obtain ⟨info, desc, z, g1, g2, g3, g4, g5, g6, g7, g8, _⟩ := tiOf_spec (hT _ _ hti)
    obtain ⟨info', desc', z', k1, k2, k3, k4, k5, k6, k7, k8, _⟩ := tiOf_spec (hT _ _ hie)
    rw [hke] at g5
    have := tkOf_slice g5
    subst this
    obtain ⟨kl, rfl⟩ := natOf_spec hn h1
    obtain ⟨kc, rfl⟩ := natOf_spec hcc h2
    split at hd
    ·rename_i hc
     obtain ⟨c1, c2, c3, c4, c5, c6⟩ := hc
     have hrun := run_make (P := P) w t e info' z' g2 k1 k3 kl kc n cc (by omega) (by omega) (by rw [k8]; have : ((i.bytes * cc : Nat) : Int) ≤ 281474976710656 := (by rw [Nat.mul_comm]; omega); rwa [Int.natCast_mul] at this) (by unfold maxLen at c3; omega)
     simp only [Int.toNat_natCast, k7] at hrun
     have hz : RelV S w z' i.zero := ofValue_rel k4
     obtain ⟨z1, z2⟩ := hz.cells c5
     have hcell : ∀ q v, (madeCells z'.cells (cc * i.size))[q]? = some v → z'.cells[q % i.size]? = some v := by
      intro q v hq
      have hlt := (Array.getElem?_eq_some_iff.1 hq).1
      rw [size_madeCells] at hlt
      unfold madeCells at hq
      rw [Array.getElem?_map, Array.getElem?_range, if_pos hlt] at hq
      simp only [Option.map_some, Option.some.injEq] at hq
      have hm : q % z'.cells.size < z'.cells.size := Nat.mod_lt _ (by omega)
      rw [getElem!_pos z'.cells _ hm] at hq
      have e1 : z'.cells.size = i.size := by omega
      rw [← e1, Array.getElem?_eq_getElem hm, hq]
     have hkp := keeps_alloc hi (.cells (madeCells z'.cells (cc * i.size)) e) S (fun _ _ h => h)
     have row : ∀ (d : D) (h'' : List AObj), (d, h'') = (D.osl h.length 0 n false, h ++ [.row i.size (List.replicate n i.zero)]) →
       ∃ y w' β', (Instr.makeSlice t (.int kl n) (.int kc cc)).run P w = .ok y w' ∧ Ext DR S β w S β' w' ∧ HInv S β' w' h'' ∧ RelD S β' w' y d := by
      intro d h'' he
      obtain ⟨rfl, rfl⟩ := Prod.mk.inj he
      have f1 : ∀ (q : Nat) (x : V), (List.replicate n i.zero)[q]? = some x → x.solid = true ∧ x.cells.length = i.size := by
       intro q x hx
       have := List.mem_replicate.1 (List.mem_of_getElem? hx)
       rw [this.2]; exact ⟨c5, c6⟩
      have f2 : ∀ (q j : Nat) (x y : V) (v : Value), (List.replicate n i.zero)[q]? = some x → x.cells[j]? = some y → (madeCells z'.cells (cc * i.size))[q * i.size + j]? = some v → RelV S (w.alloc (.cells (madeCells z'.cells (cc * i.size)) e)) v y := by
       intro q j x y v hx hy hv
       have := List.mem_replicate.1 (List.mem_of_getElem? hx)
       rw [this.2] at hy
       have hj := lt_of_getElem? hy
       have := hcell _ _ hv
       rw [mod_mul_add (by omega)] at this
       exact RelV.mono hkp (z2 j v y this hy)
      obtain ⟨e1, e2⟩ := own_alloc (DR := DR) hi (madeCells z'.cells (cc * i.size)) e cc i.size (.row i.size (List.replicate n i.zero)) rfl
       ⟨rfl, c4, c3, by simp; omega, f1, _, e, heap_alloc_new w _, size_madeCells _ _, f2⟩
      exact ⟨_, _, _, hrun, e1, e2, .osl _ 0 n w.heap.size cc i.size 0 cc false (by rw [← hi.len]; simp) (by omega) (by simp) (by simp)⟩
     have mixed : ∀ (d : D) (h'' : List AObj), i.size = 1 → i.zero.scalar = true → (d, h'') = (D.osl h.length 0 n false, h ++ [.cells (List.replicate cc (.v i.zero))]) →
       ∃ y w' β', (Instr.makeSlice t (.int kl n) (.int kc cc)).run P w = .ok y w' ∧ Ext DR S β w S β' w' ∧ HInv S β' w' h'' ∧ RelD S β' w' y d := by
      intro d h'' hs1 hsc he
      obtain ⟨rfl, rfl⟩ := Prod.mk.inj he
      have f2 : ∀ (q : Nat) (v : Value) (x : D), (madeCells z'.cells (cc * i.size))[q]? = some v → (List.replicate cc (D.v i.zero))[q]? = some x → RelD S (β ++ [(w.heap.size, cc, 1)]) (w.alloc (.cells (madeCells z'.cells (cc * i.size)) e)) v x := by
       intro q v x hv hx
       have := List.mem_replicate.1 (List.mem_of_getElem? hx)
       rw [this.2]
       have hcl : i.zero.cells = [i.zero] := by
        cases hzz : i.zero <;> first | rfl | (rw [hzz] at hsc; cases hsc)
       have := hcell _ _ hv
       rw [hs1, Nat.mod_one] at this
       exact .v _ _ (RelV.mono hkp (z2 0 v i.zero this (by rw [hcl]; rfl)))
      obtain ⟨e1, e2⟩ := own_alloc (DR := DR) hi (madeCells z'.cells (cc * i.size)) e cc 1 (.cells (List.replicate cc (.v i.zero))) rfl
       ⟨rfl, c3, by simp, _, e, heap_alloc_new w _, by rw [size_madeCells, hs1, Nat.mul_one], f2⟩
      exact ⟨_, _, _, hrun, e1, e2, .osl _ 0 n w.heap.size cc 1 0 cc false (by rw [← hi.len]; simp) (by omega) (by simp) (by simp)⟩
     split at hd
     ·split at hd
      ·rename_i hs; exact mixed _ _ hs.1 hs.2 (Option.some.inj hd).symm
      ·cases hd
     ·split at hd
      ·rename_i hs; exact mixed _ _ hs.1 hs.2 (Option.some.inj hd).symm
      ·cases hd
     ·split at hd
      ·rename_i hs; exact mixed _ _ hs.1 hs.2 (Option.some.inj hd).symm
      ·cases hd
     ·exact row _ _ (Option.some.inj hd).symm
    ·cases hd
  ·cases hd
theorem run_indexAt {P : Program} {w : World} {t e : Nat} {i : TypeInfo} (ht : P.underlying t = some (.slice e)) (hi : P.info? e = some i) (a : Addr) (len cap : Nat) (k : IntKind) (j : Nat) (hj : j < len) :
  (Instr.indexAt t (.slice (some a) len cap) (.int k j)).run P w = .ok (.pointer (some (a.add (j * i.size)))) w := by
 simp only [Instr.indexAt, asIntOf, Sem.run_bind, Sem.run_pure, Result.andThen_ok, run_underlying ht]
 rw [if_pos (by omega)]
 simp only [Sem.run_bind, run_sizeOf hi, Result.andThen_ok, Sem.run_pure, Int.toNat_natCast]
theorem indexAddr_sound {P : Program} {T : Nat → Option TI} (hT : ∀ t i, T t = some i → tiOf P t = some i) {S : Nat → Nat → Prop} {β : Blocks} {w : World} {h : List AObj} (hi : HInv S β w h) {t : Nat} {x ix d : D}
  (hd : indexAddrH T h t x ix = some d) {v u : Value} (hv : RelD S β w v x) (hu : RelD S β w u ix) : ∃ y, (Instr.indexAt t v u).run P w = .ok y w ∧ RelD S β w y d := by
 unfold indexAddrH at hd
 split at hd
 ·rename_i r off len full
  split at hd
  ·cases hd
  ·rename_i ti hti
   split at hd
   ·rename_i e j hke hj
    obtain ⟨info, desc, z, g1, g2, g3, g4, g5, g6, g7, g8, _⟩ := tiOf_spec (hT _ _ hti)
    rw [hke] at g5
    have := tkOf_slice g5
    subst this
    obtain ⟨kj, rfl⟩ := natOf_spec hj hu
    split at hd
    ·rename_i hlt
     cases hv with
     | osl r off len b c k p cap full hb hlen hp hcap =>
     subst hp
     split at hd
     ·rename_i k0 k' es hk0 hes
      split at hd
      ·rename_i hkk
       subst hkk
       cases hd
       unfold sizeT at hk0
       obtain ⟨i, hie, rfl⟩ := Option.map_eq_some_iff.1 hk0
       obtain ⟨info', desc', z', k1, k2, k3, k4, k5, k6, k7, k8, _⟩ := tiOf_spec (hT _ _ hie)
       obtain ⟨o1, _⟩ := hi.obj r _ b c k hes hb
       refine ⟨_, run_indexAt g2 k1 _ len cap kj j hlt, ?_⟩
       rw [Addr.add_lit, k7]
       exact .eptr r (off + j) 0 b c k _ hb (by rw [← o1, Nat.add_mul, Nat.add_zero])
      ·cases hd
     ·rename_i hk0 hcs
      cases hd
      unfold sizeT at hk0
      obtain ⟨i, hie, hs1⟩ := Option.map_eq_some_iff.1 hk0
      obtain ⟨info', desc', z', k1, k2, k3, k4, k5, k6, k7, k8, _⟩ := tiOf_spec (hT _ _ hie)
      obtain ⟨o1, _⟩ := hi.obj r _ b c k hcs hb
      refine ⟨_, run_indexAt g2 k1 _ len cap kj j hlt, ?_⟩
      rw [Addr.add_lit, k7, hs1, o1, Nat.mul_one, Nat.mul_one]
      exact .ptr r (off + j) b c k hb
     ·rename_i k0 k' cs hk0 hcs
      split at hd
      ·rename_i hkk
       subst hkk
       cases hd
       unfold sizeT at hk0
       obtain ⟨i, hie, rfl⟩ := Option.map_eq_some_iff.1 hk0
       obtain ⟨info', desc', z', k1, k2, k3, k4, k5, k6, k7, k8, _⟩ := tiOf_spec (hT _ _ hie)
       obtain ⟨o1, _⟩ := hi.obj r _ b c k hcs hb
       refine ⟨_, run_indexAt g2 k1 _ len cap kj j hlt, ?_⟩
       rw [Addr.add_lit, k7, ← o1, ← Nat.add_mul]
       exact .ptr r ((off + j) * i.size) b c k hb
      ·cases hd
     ·cases hd
    ·cases hd
   ·cases hd
 ·unfold indexAddrD at hd
  split at hd
  ·cases hd
  ·rename_i ti hti
   split at hd
   ·rename_i e fl es j hke hj hne
    obtain ⟨info, desc, z, g1, g2, g3, g4, g5, g6, g7, g8, _⟩ := tiOf_spec (hT _ _ hti)
    rw [hke] at g5
    have := tkOf_slice g5
    subst this
    obtain ⟨kj, rfl⟩ := natOf_spec hj hu
    split at hd
    ·rename_i k0 x0 hk0 hx0
     split at hd
     ·rename_i hl
      rw [beq_iff_eq] at hl
      cases hd
      unfold sizeT at hk0
      obtain ⟨i, hie, rfl⟩ := Option.map_eq_some_iff.1 hk0
      obtain ⟨info', desc', z', k1, k2, k3, k4, k5, k6, k7, k8, _⟩ := tiOf_spec (hT _ _ hie)
      have hlt := lt_of_getElem? hx0
      have hvv := hv.of_v
      generalize hes : V.sl fl es = vsl at hvv
      cases hvv <;> try (cases hes; done)
      ·cases hes; simp at hlt
      ·cases hes; simp at hlt
      ·rename_i fl' b off cap k' n es' vals hn hnil hf hc hm hsol hs hr
       cases hes
       subst hn
       refine ⟨_, run_indexAt g2 k1 _ _ cap kj j hlt, ?_⟩
       have hk' : k' = i.size := by rw [← (hsol j x0 hx0).2, hl]
       rw [Addr.add_lit, k7, ← hk']
       refine .vptr b (off + j * k') x0.cells (fun q => vals (j * k' + q)) (fun q hq => ?_) (fun q y hy => hr j q x0 y hx0 hy)
       have := hs j q hlt (by omega)
       rw [← Nat.add_assoc] at this
       exact this
     ·cases hd
    ·cases hd
   ·cases hd
theorem fieldAddr_sound0 {P : Program} {T : Nat → Option TI} (hT : ∀ t i, T t = some i → tiOf P t = some i) {S : Nat → Nat → Prop} {β : Blocks} {w : World} {t f : Nat} {x d : D}
  (hnp : ∀ cs, x ≠ .v (.ptr cs)) (hd : fieldAddrD T t f x = some d) {v : Value} (hv : RelD S β w v x) : ∃ y, (Instr.fieldAt t v f).run P w = .ok y w ∧ RelD S β w y d := by
 unfold fieldAddrD at hd
 split at hd
 ·cases hd
 ·rename_i ti hti
  split at hd
  ·rename_i fs hkf
   obtain ⟨info, desc, z, g1, g2, g3, g4, g5, g6, g7, g8, _⟩ := tiOf_spec (hT _ _ hti)
   rw [hkf] at g5
   obtain ⟨fields, rfl, rfl, _⟩ := tkOf_struct g5
   split at hd
   ·cases hd
   ·rename_i o ft hf
    simp only [List.getElem?_map] at hf
    obtain ⟨fd, hfd, he⟩ := Option.map_eq_some_iff.1 hf
    cases he
    split at hd
    ·cases hd
    ·cases hd
    ·rename_i k hk
     unfold sizeT at hk
     obtain ⟨i, hie, hsz⟩ := Option.map_eq_some_iff.1 hk
     obtain ⟨info', desc', z', k1, k2, k3, k4, k5, k6, k7, k8, _⟩ := tiOf_spec (hT _ _ hie)
     have hrun : ∀ a : Addr, (Instr.fieldAt t (.pointer (some a)) f).run P w = .ok (.pointer (some (a.add fd.offset))) w := by
      intro a
      have hfd' : fields[f]? = some fd := by simpa using hfd
      simp [Instr.fieldAt, run_underlying g2, hfd', Instr.sureAddr, fieldPlace, run_sizeOf k1, k7, hsz]
     cases hv with
     | ptr r off b c k h => cases hd; exact ⟨_, hrun _, by rw [Addr.add_lit]; exact .ptr r _ b c k h⟩
     | eptr r q off b c k p h hp => cases hd; exact ⟨_, hrun _, by rw [Addr.add_lit]; exact .eptr r q _ b c k _ h (by omega)⟩
     | vptr b off cells vals hs hr =>
      cases hd
      refine ⟨_, hrun _, ?_⟩
      rw [Addr.add_lit]
      refine .vptr b (off + fd.offset) _ (fun q => vals (fd.offset + q)) (fun q hq => ?_) (fun q x hx => hr _ x (by rw [List.getElem?_drop] at hx; exact hx))
      have := hs (fd.offset + q) (by simp at hq; omega)
      rw [← Nat.add_assoc] at this
      exact this
     | v _ y h => cases y <;> first | (simp at hd; done) | exact absurd rfl (hnp _)
     | _ => simp at hd
  ·cases hd
theorem fieldAddr_sound {P : Program} {T : Nat → Option TI} (hT : ∀ t i, T t = some i → tiOf P t = some i) {S : Nat → Nat → Prop} {β : Blocks} {w : World} {t f : Nat} {x d : D}
  (hd : fieldAddrD T t f x = some d) {v : Value} (hv : RelD S β w v x) : ∃ y, (Instr.fieldAt t v f).run P w = .ok y w ∧ RelD S β w y d := by
 by_cases hp : ∃ cs, x = .v (.ptr cs)
 ·obtain ⟨cs, rfl⟩ := hp
  exact fieldAddr_sound0 (x := .vptr cs) hT (by simp) hd hv.of_v.as_vptr
 ·exact fieldAddr_sound0 hT (fun cs e => hp ⟨cs, e⟩) hd hv
theorem part_sound {P : Program} {S : Nat → Nat → Prop} {β : Blocks} {w : World} {t : Nat} {i : TI} (ht : tiOf P t = some i) {vs : Array Value} {cs : List D} (hl : vs.size = cs.length)
  (hr : ∀ (j : Nat) v x, vs[j]? = some v → cs[j]? = some x → RelD S β w v x) {off : Nat} {d : D} (hd : (cut cs off i.size).bind (mkOf i.kind.isAgg) = some d) : ∃ y, (part t vs off).run P w = .ok y w ∧ RelD S β w y d := by
 obtain ⟨info, desc, z, g1, g2, g3, g4, g5, g6, g7, g8, _⟩ := tiOf_spec ht
 obtain ⟨p, hp, hm⟩ := Option.bind_eq_some_iff.1 hd
 obtain ⟨c1, c2, c3⟩ := cut_spec hp
 rw [← g5] at g6 hm
 unfold part
 simp only [Sem.run_bind, run_isAgg g2 g6, Result.andThen_ok]
 cases hagg : (tkOf desc).isAgg with
 | true =>
  rw [hagg] at hm
  simp only [mkOf, if_true, Option.some.injEq] at hm
  subst hm
  simp only [if_true, Sem.run_bind, run_sizeOf g1, g7, Result.andThen_ok, Sem.run_pure]
  refine ⟨_, rfl, rel_mkAgg (by simp; omega) (fun j v x hv hx => ?_)⟩
  have hj := lt_of_getElem? hx
  rw [c3 j (by omega)] at hx
  rw [Array.getElem?_extract] at hv
  split at hv
  ·exact hr _ v x hv hx
  ·cases hv
 | false =>
  rw [hagg] at hm
  simp only [mkOf, Bool.false_eq_true, if_false] at hm
  cases p with
  | nil => cases hm
  | cons x r =>
   cases r with
   | cons _ _ => cases hm
   | nil =>
    simp only [Option.some.injEq] at hm
    subst hm
    have h0 := c3 0 (by simp at c1; omega)
    simp only [List.getElem?_cons_zero, Nat.add_zero] at h0
    have hlt := lt_of_getElem? h0.symm
    have hv : vs[off]? = some vs[off] := Array.getElem?_eq_getElem (by omega)
    simp only [Bool.false_eq_true, if_false, hv, Sem.run_pure]
    exact ⟨_, rfl, hr off _ x hv h0.symm⟩
theorem mkOf_cut_map {off n : Nat} {agg : Bool} (l : List V) : (cut (l.map D.v) off n).bind (mkOf agg) = ((cut l off n).bind (mkOfV agg)).map .v := by
 unfold cut
 simp only [List.length_map]
 split
 ·simp only [Option.bind_some, ← List.map_drop, ← List.map_take, mkOf_map]
 ·rfl
theorem field_sound {P : Program} {T : Nat → Option TI} (hT : ∀ t i, T t = some i → tiOf P t = some i) {S : Nat → Nat → Prop} {β : Blocks} {w : World} {t f : Nat} {x d : D}
  (hd : fieldD T t f x = some d) {v : Value} (hv : RelD S β w v x) : ∃ y, (Instr.field t v f).run P w = .ok y w ∧ RelD S β w y d := by
 unfold fieldD at hd
 split at hd
 ·cases hd
 ·rename_i ti hti
  split at hd
  ·rename_i fs hkf
   obtain ⟨info, desc, z, g1, g2, g3, g4, g5, g6, g7, g8, _⟩ := tiOf_spec (hT _ _ hti)
   rw [hkf] at g5
   obtain ⟨fields, rfl, rfl, _⟩ := tkOf_struct g5
   split at hd
   ·cases hd
   ·rename_i o ft hf
    simp only [List.getElem?_map] at hf
    obtain ⟨fd, hfd, he⟩ := Option.map_eq_some_iff.1 hf
    cases he
    have hfd' : fields[f]? = some fd := by simpa using hfd
    split at hd
    ·cases hd
    ·rename_i i hie
     have hrun : ∀ vs : Array Value, (Instr.field t (.agg vs) f).run P w = (part fd.type vs fd.offset).run P w := by
      intro vs
      simp [Instr.field, run_underlying g2, hfd', asAgg]
     split at hd
     ·rename_i cs
      have hvv := hv.of_v
      cases hvv with
      | agg vs cs hl hr =>
      have := part_sound (S := S) (β := β) (w := w) (hT _ _ hie) (vs := vs) (cs := cs.map .v) (by simpa using hl) (fun j v x hv hx => by
       simp only [List.getElem?_map] at hx
       obtain ⟨y, hy, rfl⟩ := Option.map_eq_some_iff.1 hx
       exact .v _ _ (hr j v y hv hy)) (off := fd.offset) (d := d) (by rw [mkOf_cut_map]; exact hd)
      obtain ⟨y, h1, h2⟩ := this
      exact ⟨y, by rw [hrun]; exact h1, h2⟩
     ·rename_i cs
      cases hv with
      | agg vs cs hl hr =>
      obtain ⟨y, h1, h2⟩ := part_sound (S := S) (β := β) (w := w) (hT _ _ hie) hl hr hd
      exact ⟨y, by rw [hrun]; exact h1, h2⟩
     ·cases hd
  ·cases hd
theorem index_sound {P : Program} {T : Nat → Option TI} (hT : ∀ t i, T t = some i → tiOf P t = some i) {S : Nat → Nat → Prop} {β : Blocks} {w : World} {t : Nat} {x ix d : D}
  (hd : indexD T t x ix = some d) {v u : Value} (hv : RelD S β w v x) (hu : RelD S β w u ix) : ∃ y, (Instr.index t v u).run P w = .ok y w ∧ RelD S β w y d := by
 unfold indexD at hd
 split at hd
 ·cases hd
 ·rename_i ti hti
  split at hd
  ·rename_i s j hks hj
   obtain ⟨info, desc, z, g1, g2, g3, g4, g5, g6, g7, g8, _⟩ := tiOf_spec (hT _ _ hti)
   rw [hks] at g5
   have := tkOf_str g5
   subst this
   obtain ⟨kj, rfl⟩ := natOf_spec hj hu
   cases hv.of_v
   split at hd
   ·rename_i b hb
    cases hd
    refine ⟨.int .u8 b.toNat, ?_, .v _ _ (.int _ _)⟩
    simp only [Instr.index, asIntOf, Sem.run_bind, Sem.run_pure, Result.andThen_ok, run_underlying g2]
    rw [if_pos (by omega)]
    simp [hb]
   ·cases hd
  ·cases hd
theorem len_sound {P : Program} {T : Nat → Option TI} (hT : ∀ t i, T t = some i → tiOf P t = some i) {S : Nat → Nat → Prop} {β : Blocks} {w : World} {t ty : Nat} {x d : D}
  (hd : lenD T t x = some d) {v : Value} (hv : RelD S β w v x) : ∃ y, (Builtin.len_ #[t] ty #[v]).run P w = .ok y w ∧ RelD S β w y d := by
 unfold lenD at hd
 split at hd
 ·cases hd
 ·rename_i ti hti
  obtain ⟨info, desc, z, g1, g2, g3, g4, g5, g6, g7, g8, _⟩ := tiOf_spec (hT _ _ hti)
  split at hd
  ·rename_i e fl es hk
   rw [hk] at g5
   have := tkOf_slice g5
   subst this
   cases hd
   have hlen : ∃ base c, v = .slice base es.length c := by
    have hvv := hv.of_v
    generalize hes : V.sl fl es = vsl at hvv
    cases hvv <;> try (cases hes; done)
    ·cases hes; exact ⟨_, _, rfl⟩
    ·cases hes; exact ⟨_, _, rfl⟩
    ·rename_i hn _ _ _ _ _ _ _
     cases hes; subst hn; exact ⟨_, _, rfl⟩
   obtain ⟨base, c, rfl⟩ := hlen
   exact ⟨_, by simp [Builtin.len_, run_underlying g2, goInt], .v _ _ (.int _ _)⟩
  ·rename_i e r off len full hk
   rw [hk] at g5
   have := tkOf_slice g5
   subst this
   cases hd
   cases hv
   exact ⟨_, by simp [Builtin.len_, run_underlying g2, goInt], .v _ _ (.int _ _)⟩
  ·rename_i s hk
   rw [hk] at g5
   have := tkOf_str g5
   subst this
   cases hd
   cases hv.of_v
   exact ⟨_, by simp [Builtin.len_, run_underlying g2, goInt], .v _ _ (.int _ _)⟩
  ·cases hd
end Go.Abs
