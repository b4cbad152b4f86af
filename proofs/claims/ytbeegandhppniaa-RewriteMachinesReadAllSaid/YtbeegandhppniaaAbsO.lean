import Derived.Test.YtbeegandhppniaaAbsR
namespace Go.Abs
set_option linter.unusedVariables false
set_option linter.unusedSimpArgs false
set_option linter.unnecessarySimpa false
theorem tiOf_spec {P : Program} {t : Nat} {i : TI} (h : tiOf P t = some i) : ∃ (info : TypeInfo) (desc : TypeDesc) (z : Value), P.info? t = some info ∧ P.underlying t = some desc ∧ info.zero = some z ∧
  ofValue z = some i.zero ∧ tkOf desc = i.kind ∧ i.kind.isOther = false ∧ info.size = i.size ∧ info.bytes = i.bytes ∧ (i.eqOk = true → P.eqGuardType P.depth t = false ∧ P.stoodInHeld t = false) := by
 unfold tiOf at h
 split at h
 ·rename_i info desc h1 h2
  split at h
  ·rename_i z hz
   split at h
   ·rename_i x hx
    split at h
    ·cases h
    ·rename_i ho
     cases h
     exact ⟨info, desc, z, h1, h2, hz, hx, rfl, by simpa using ho, rfl, rfl, by simp⟩
   ·cases h
  ·cases h
 ·cases h
theorem tiOf_meths {P : Program} {t : Nat} {i : TI} (h : tiOf P t = some i) : ∃ info : TypeInfo, P.info? t = some info ∧ i.meths = info.methods.toList.map fun m => (m.name, if m.path.isEmpty then m.func else none) := by
 unfold tiOf at h
 split at h
 ·rename_i info desc h1 h2
  split at h
  ·split at h
   ·split at h
    ·cases h
    ·cases h
     exact ⟨info, h1, rfl⟩
   ·cases h
  ·cases h
 ·cases h
theorem tkOf_slice {d : TypeDesc} {e : Nat} (h : tkOf d = .slice e) : d = .slice e := by
 cases d <;> simp only [tkOf] at h <;> first | (cases h; rfl) | cases h | (split at h <;> cases h)
theorem tkOf_array {d : TypeDesc} {n e : Nat} (h : tkOf d = .array n e) : d = .array n e := by
 cases d <;> simp only [tkOf] at h <;> first | (cases h; rfl) | cases h | (split at h <;> cases h)
theorem tkOf_int {d : TypeDesc} {k : IntKind} (h : tkOf d = .int k) : d = .int k := by
 cases d <;> simp only [tkOf] at h <;> first | (cases h; rfl) | cases h | (split at h <;> cases h)
theorem tkOf_bool {d : TypeDesc} (h : tkOf d = .bool) : d = .bool := by
 cases d <;> simp only [tkOf] at h <;> first | rfl | cases h | (split at h <;> cases h)
theorem tkOf_str {d : TypeDesc} (h : tkOf d = .str) : d = .string := by
 cases d <;> simp only [tkOf] at h <;> first | rfl | cases h | (split at h <;> cases h)
theorem tkOf_ptr {d : TypeDesc} {e : Nat} (h : tkOf d = .ptr e) : d = .pointer e := by
 cases d <;> simp only [tkOf] at h <;> first | (cases h; rfl) | cases h | (split at h <;> cases h)
theorem tkOf_func {d : TypeDesc} (h : tkOf d = .func) : ∃ a b c, d = .func a b c := by
 cases d <;> simp only [tkOf] at h <;> first | exact ⟨_, _, _, rfl⟩ | cases h | (split at h <;> cases h)
theorem tkOf_map {d : TypeDesc} {k e : Nat} (h : tkOf d = .map k e) : d = .map k e := by
 cases d <;> simp only [tkOf] at h <;> first | (cases h; rfl) | cases h | (split at h <;> cases h)
theorem tkOf_struct {d : TypeDesc} {fs : List (Nat × Nat)} (h : tkOf d = .struct fs) : ∃ fields : Array Field, d = .struct fields ∧ fs = fields.toList.map (fun f => (f.offset, f.type)) ∧ ∀ f ∈ fields.toList, f.name ≠ "_" := by
 cases d <;> simp only [tkOf] at h <;> try cases h
 split at h
 ·rename_i fields ha
  cases h
  exact ⟨fields, rfl, rfl, fun f hf => by have := List.all_eq_true.1 ha f hf; simpa using this⟩
 ·cases h
theorem run_typeInfo {P : Program} {t : Nat} {i : TypeInfo} (h : P.info? t = some i) (w : World) : (typeInfo t).run P w = .ok i w := by
 simp [typeInfo, h]
theorem run_sizeOf {P : Program} {t : Nat} {i : TypeInfo} (h : P.info? t = some i) (w : World) : (sizeOf t).run P w = .ok i.size w := by
 simp [sizeOf, typeInfo, h]
theorem run_isAgg {P : Program} {t : Nat} {d : TypeDesc} (h : P.underlying t = some d) (ho : (tkOf d).isOther = false) (w : World) : (isAgg t).run P w = .ok (tkOf d).isAgg w := by
 unfold isAgg
 simp only [Sem.run_bind, run_underlying h, Result.andThen_ok]
 cases d with
 | struct fs =>
  by_cases hh : (fs.toList.all fun f => f.name != "_") = true
  ·simp only [tkOf, hh, if_true]; rfl
  ·simp only [tkOf, hh, if_false, Bool.false_eq_true] at ho; cases ho
 | _ => first | rfl | (simp [tkOf, TK.isOther] at ho)
theorem RelV.oneCell {S : Nat → Nat → Prop} {w : World} {v : Value} {x : V} (h : RelV S w v x) (hs : x.scalar = true) : v.oneCell' = true := by
 cases h <;> first | rfl | (simp [V.scalar] at hs)
theorem RelD.oneCell {S : Nat → Nat → Prop} {β : Blocks} {w : World} {v : Value} {d : D} (h : RelD S β w v d) (hs : d.scalar = true) : v.oneCell' = true := by
 cases h <;> first | rfl | (simp [D.scalar] at hs; done) | skip
 rename_i x h
 exact h.oneCell hs
theorem oneCell_cells {v : Value} (h : v.oneCell' = true) : v.cells = #[v] := by
 cases v <;> first | rfl | (simp [Value.oneCell'] at h)
theorem RelV.cells {S : Nat → Nat → Prop} {w : World} {v : Value} {x : V} (h : RelV S w v x) (hs : x.solid = true) :
  v.cells.size = x.cells.length ∧ ∀ (j : Nat) (u : Value) (y : V), v.cells[j]? = some u → x.cells[j]? = some y → RelV S w u y := by
 by_cases hx : x.scalar = true
 ·have hv := oneCell_cells (h.oneCell hx)
  have hc : x.cells = [x] := by cases x <;> first | rfl | (simp [V.scalar] at hx)
  rw [hv, hc]
  refine ⟨rfl, fun j u y hu hy => ?_⟩
  cases j with
  | zero => simp at hu hy; subst hu; subst hy; exact h
  | succ j => simp at hu
 ·cases h <;> simp [V.scalar] at hx
  ·rename_i vs cs hl hr
   exact ⟨hl, hr⟩
  ·simp [V.solid] at hs
theorem RelV.cells_one {S : Nat → Nat → Prop} {w : World} {v : Value} {x : V} (h : RelV S w v x) (hs : x.solid = true) : ∀ u ∈ v.cells.toList, u.oneCell' = true := by
 intro u hu
 obtain ⟨j, hj⟩ := List.getElem?_of_mem hu
 obtain ⟨hl, hr⟩ := h.cells hs
 have hj' : v.cells[j]? = some u := by simpa using hj
 have hlt : j < v.cells.size := (Array.getElem?_eq_some_iff.1 hj').1
 have hy : ∃ y, x.cells[j]? = some y := ⟨_, List.getElem?_eq_getElem (by omega)⟩
 obtain ⟨y, hy⟩ := hy
 refine (hr j u y hj' hy).oneCell ?_
 have hm := List.mem_of_getElem? hy
 cases x <;> simp [V.cells] at hm <;> first | (subst hm; rfl) | skip
 ·simp [V.solid] at hs; exact hs y hm
 ·simp [V.solid] at hs
theorem RelD.cells {S : Nat → Nat → Prop} {β : Blocks} {w : World} {v : Value} {x : D} (h : RelD S β w v x) (hs : x.solid = true) :
  v.cells.size = x.cells.length ∧ ∀ (j : Nat) (u : Value) (y : D), v.cells[j]? = some u → x.cells[j]? = some y → RelD S β w u y := by
 cases h with
 | v v x h =>
  obtain ⟨h1, h2⟩ := h.cells hs
  refine ⟨by simp [D.cells, h1], fun j u y hu hy => ?_⟩
  simp only [D.cells, List.getElem?_map] at hy
  cases hc : x.cells[j]? with
  | none => simp [hc] at hy
  | some z => simp [hc] at hy; subst hy; exact .v _ _ (h2 j u z hu hc)
 | agg vs cs hl hr => exact ⟨hl, hr⟩
 | undef v => simp [D.solid] at hs
 | tuple vs cs hl hr => simp [D.solid] at hs
 | ptr r off b c k h =>
  refine ⟨rfl, fun j u y hu hy => ?_⟩
  cases j with
  | zero => simp [D.cells, Value.cells] at hu hy; subst hu; subst hy; exact .ptr r off b c k h
  | succ j => simp [Value.cells] at hu
 | eptr r i off b c k p h hp =>
  refine ⟨rfl, fun j u y hu hy => ?_⟩
  cases j with
  | zero => simp [D.cells, Value.cells] at hu hy; subst hu; subst hy; exact .eptr r i off b c k p h hp
  | succ j => simp [Value.cells] at hu
 | vptr b off cells vals hs' hr =>
  refine ⟨rfl, fun j u y hu hy => ?_⟩
  cases j with
  | zero => simp [D.cells, Value.cells] at hu hy; subst hu; subst hy; exact .vptr b off cells vals hs' hr
  | succ j => simp [Value.cells] at hu
 | map r b c k h =>
  refine ⟨rfl, fun j u y hu hy => ?_⟩
  cases j with
  | zero => simp [D.cells, Value.cells] at hu hy; subst hu; subst hy; exact .map r b c k h
  | succ j => simp [Value.cells] at hu
 | osl r off len b c k p cap full h hb hp hcap =>
  refine ⟨rfl, fun j u y hu hy => ?_⟩
  cases j with
  | zero => simp [D.cells, Value.cells] at hu hy; rw [← hu, ← hy]; exact .osl r off len b c k p cap full h hb hp hcap
  | succ j => simp [Value.cells] at hu
 | tsl t b c k n es h hn hs' hv =>
  refine ⟨rfl, fun j u y hu hy => ?_⟩
  cases j with
  | zero => simp [D.cells, Value.cells] at hu hy; rw [← hu, ← hy]; exact .tsl t b c k n es h hn hs' hv
  | succ j => simp [Value.cells] at hu
 | func f a c fs cs hl hl' hr hr' =>
  refine ⟨rfl, fun j u y hu hy => ?_⟩
  cases j with
  | zero => simp [D.cells, Value.cells] at hu hy; subst hu; subst hy; exact .func f a c fs cs hl hl' hr hr'
  | succ j => simp [Value.cells] at hu
 | box t u d hr =>
  refine ⟨rfl, fun j u' y hu hy => ?_⟩
  cases j with
  | zero => simp [D.cells, Value.cells] at hu hy; subst hu; subst hy; exact .box t u d hr
  | succ j => simp [Value.cells] at hu
theorem RelD.cells_one {S : Nat → Nat → Prop} {β : Blocks} {w : World} {v : Value} {x : D} (h : RelD S β w v x) (hs : x.solid = true) : ∀ u ∈ v.cells.toList, u.oneCell' = true := by
 intro u hu
 obtain ⟨j, hj⟩ := List.getElem?_of_mem hu
 obtain ⟨hl, hr⟩ := h.cells hs
 have hj' : v.cells[j]? = some u := by simpa using hj
 have hlt : j < v.cells.size := (Array.getElem?_eq_some_iff.1 hj').1
 obtain ⟨y, hy⟩ : ∃ y, x.cells[j]? = some y := ⟨_, List.getElem?_eq_getElem (by omega)⟩
 refine (hr j u y hj' hy).oneCell ?_
 have hm := List.mem_of_getElem? hy
 cases x <;> simp [D.cells] at hm <;> first | (subst hm; first | rfl | (simp [D.solid] at hs; done)) | skip
 ·rename_i x
  obtain ⟨z, hz, rfl⟩ := hm
  cases x <;> simp [V.cells] at hz <;> first | (subst hz; rfl) | skip
  ·simp [D.solid, V.solid] at hs; exact hs z hz
  ·simp [D.solid, V.solid] at hs
 ·simp [D.solid] at hs; exact hs y hm
theorem RelD.unt {S : Nat → Nat → Prop} {β : Blocks} {w : World} {v : Value} {d : D} (h : RelD S β w v d) : RelD S β w v d.unt := by
 cases d with
 | tsl t es => cases h with
  | tsl _ b c k n _ h hn hs hv => exact .v _ _ hv
 | _ => exact h
theorem RelD.unp {S : Nat → Nat → Prop} {β : Blocks} {w : World} {v : Value} {d : D} (h : RelD S β w v d) : RelD S β w v d.unp := by
 cases d with
 | tsl t es => cases h with
  | tsl _ b c k n _ h hn hs hv => exact .v _ _ hv
 | v x => cases x with
  | sl fl es =>
   have h2 : RelV S w v (.sl fl es) := by cases h with | v _ _ h => exact h
   refine .v _ _ ?_
   cases h2 with
   | slnil fl h => exact .slnil _ (by decide)
   | slemp fl a cap h hf hm => exact .slemp _ a cap (by decide) (fun h => by cases h) hm
   | sl fl b off cap k n es vals hn h hf hc hm hk hs hr => exact .sl _ b off cap k n es vals hn (by decide) (fun h => by cases h) hc hm hk hs hr
  | _ => exact h
 | _ => exact h
theorem RelD.into {S : Nat → Nat → Prop} {β : Blocks} {w : World} {v : Value} {u : Bool} {p d : D} (h : RelD S β w v d) : RelD S β w v (D.into u p d) := by
 unfold D.into
 split
 ·exact h.unt
 ·split
  ·exact h.unp
  ·exact h
theorem pures_spec : ∀ {ds : List D} {vs : List V}, pures ds = some vs → ds = vs.map .v
 | [], vs, h => by simp [pures] at h; subst h; rfl
 | d :: r, vs, h => by
  simp only [pures] at h
  split at h
  ·rename_i x xs hx hxs
   cases h
   rw [pures_spec hxs]
   cases d <;> simp [D.pure?] at hx
   subst hx; rfl
  ·cases h
theorem pures_map (vs : List V) : pures (vs.map .v) = some vs := by
 induction vs with
 | nil => rfl
 | cons x r ih => simp [pures, D.pure?, ih]
theorem RelD.of_v {S : Nat → Nat → Prop} {β : Blocks} {w : World} {v : Value} {x : V} (h : RelD S β w v (.v x)) : RelV S w v x := by
 cases h; assumption
theorem rel_mkAgg {S : Nat → Nat → Prop} {β : Blocks} {w : World} {vs : Array Value} {cs : List D} (hl : vs.size = cs.length)
  (hr : ∀ (i : Nat) (v : Value) (x : D), vs[i]? = some v → cs[i]? = some x → RelD S β w v x) : RelD S β w (.agg vs) (mkAgg cs) := by
 unfold mkAgg
 split
 ·rename_i xs hx
  have := pures_spec hx
  subst this
  refine .v _ _ (.agg vs xs (by simpa using hl) (fun i v x hv hx' => (hr i v (.v x) hv (by simp [hx'])).of_v))
 ·exact .agg vs cs hl hr
theorem rel_mkTuple {S : Nat → Nat → Prop} {β : Blocks} {w : World} {vs : Array Value} {cs : List D} (hl : vs.size = cs.length)
  (hr : ∀ (i : Nat) (v : Value) (x : D), vs[i]? = some v → cs[i]? = some x → RelD S β w v x) : RelD S β w (.tuple vs) (mkTuple cs) := by
 unfold mkTuple
 split
 ·rename_i xs hx
  have := pures_spec hx
  subst this
  refine .v _ _ (.tuple vs xs (by simpa using hl) (fun i v x hv hx' => (hr i v (.v x) hv (by simp [hx'])).of_v))
 ·exact .tuple vs cs hl hr
theorem mkOf_map (agg : Bool) (l : List V) : mkOf agg (l.map .v) = (mkOfV agg l).map .v := by
 cases agg
 ·cases l with
  | nil => rfl
  | cons a r => cases r <;> rfl
 ·simp [mkOf, mkOfV, mkAgg, pures_map]
theorem ofScalar_rel {S : Nat → Nat → Prop} {w : World} {v : Value} {x : V} (h : ofScalar v = some x) : RelV S w v x := by
 unfold ofScalar at h
 split at h <;> first | cases h | skip
 all_goals first | exact .bool _ | exact .int _ _ | exact .str _ | exact .nilptr | exact .slnil _ (by decide) | exact .nilmap | exact .nilfunc
theorem ofScalars_spec : ∀ {l : List Value} {xs : List V}, ofScalars l = some xs → l.length = xs.length ∧ ∀ (i : Nat) (v : Value) (x : V), l[i]? = some v → xs[i]? = some x → ofScalar v = some x
 | [], xs, h => by simp [ofScalars] at h; subst h; simp
 | a :: r, xs, h => by
  simp only [ofScalars] at h
  split at h
  ·rename_i y ys hy hys
   cases h
   obtain ⟨h1, h2⟩ := ofScalars_spec hys
   refine ⟨by simp [h1], fun i v x hv hx => ?_⟩
   cases i with
   | zero => simp at hv hx; subst hv; subst hx; exact hy
   | succ i => simp at hv hx; exact h2 i v x hv hx
  ·cases h
theorem ofValue_rel {S : Nat → Nat → Prop} {w : World} {v : Value} {x : V} (h : ofValue v = some x) : RelV S w v x := by
 unfold ofValue at h
 split at h
 ·rename_i cs
  split at h
  ·rename_i xs hx
   cases h
   obtain ⟨h1, h2⟩ := ofScalars_spec hx
   exact .agg cs xs (by simpa using h1) (fun i v x hv hx => ofScalar_rel (h2 i v x (by simpa using hv) hx))
  ·cases h
 ·exact ofScalar_rel h
theorem load_gen {P : Program} {S : Nat → Nat → Prop} {β : Blocks} {w : World} {t : Nat} {i : TI} (ht : tiOf P t = some i) (a : Addr) (part : List D) (f : Nat → Value) (hl : part.length = i.size)
  (hf : ∀ j, j < part.length → w.cell? (a.add j) = some (f j)) (hr : ∀ (j : Nat) (x : D), part[j]? = some x → RelD S β w (f j) x) {d : D} (hd : mkOf i.kind.isAgg part = some d) :
  ∃ u, (loadVar t a).run P w = .ok u w ∧ RelD S β w u d := by
 obtain ⟨info, desc, z, h1, h2, h3, h4, h5, h6, h7, h8, _⟩ := tiOf_spec ht
 unfold loadVar
 rw [← h5] at h6 hd
 simp only [Sem.run_bind, run_isAgg h2 h6, Result.andThen_ok]
 cases hagg : (tkOf desc).isAgg with
 | true =>
  rw [hagg] at hd
  simp only [mkOf, if_true, Option.some.injEq] at hd
  subst hd
  have hrun := run_loadCells (P := P) w a i.size f (fun j hj => hf j (by omega))
  simp only [if_true, Sem.run_bind, run_sizeOf h1, h7, Result.andThen_ok, hrun, Sem.run_pure]
  refine ⟨_, rfl, rel_mkAgg (by simp [hl]) (fun j v x hv hx => ?_)⟩
  have hj : j < part.length := lt_of_getElem? hx
  simp at hv
  obtain ⟨q, hq, rfl⟩ := hv
  rw [List.getElem?_range (by omega)] at hq
  cases hq
  exact hr j x hx
 | false =>
  rw [hagg] at hd
  simp only [mkOf, Bool.false_eq_true, if_false] at hd
  split at hd
  ·cases hd
   rename_i x
   have h0 := hf 0 (by simp)
   simp only [Addr.add_zero'] at h0
   simp only [Bool.false_eq_true, if_false, run_load, h0]
   exact ⟨f 0, rfl, hr 0 _ (by simp)⟩
  ·cases hd
theorem cut_spec {α : Type} {l : List α} {off n : Nat} {p : List α} (h : cut l off n = some p) : p.length = n ∧ off + n ≤ l.length ∧ ∀ j, j < n → p[j]? = l[off + j]? := by
 unfold cut at h
 split at h
 ·rename_i hle
  cases h
  refine ⟨by simp; omega, hle, fun j hj => ?_⟩
  rw [List.getElem?_take, if_pos hj, List.getElem?_drop]
 ·cases h
theorem cell_own {w : World} {b j : Nat} {cur : Array Value} {e : TypeId} (h : w.heap[b]? = some (.cells cur e (0, 0))) : w.cell? ⟨b, j, none⟩ = cur[j]? := cell_of_row w b j cur e (0, 0) h
theorem RelV.as_vptr {S : Nat → Nat → Prop} {β : Blocks} {w : World} {v : Value} {cs : List V} (h : RelV S w v (.ptr cs)) : RelD S β w v (.vptr cs) := by
 cases h with
 | ptr b off _ vals hs hr => exact .vptr b off _ vals hs hr
theorem loadD_sound0 {P : Program} {S : Nat → Nat → Prop} {β : Blocks} {w : World} {h : List AObj} (hi : HInv S β w h) {t : Nat} {i : TI} (ht : tiOf P t = some i) {p d : D} (hnp : ∀ cs, p ≠ .v (.ptr cs)) (hd : loadD i h p = some d)
  {v : Value} (hv : RelD S β w v p) : ∃ u, (Instr.loadAt t v).run P w = .ok u w ∧ RelD S β w u d := by
 cases hv with
 | v _ x h => cases x <;> first | (simp [loadD] at hd; done) | exact absurd rfl (hnp _)
 | ptr r off b c k hb =>
  simp only [loadD] at hd
  split at hd
  ·rename_i cs hcs
   obtain ⟨part, hp, hm⟩ := Option.bind_eq_some_iff.1 hd
   obtain ⟨hl, hle, hget⟩ := cut_spec hp
   obtain ⟨_, _, hlen, cur, e, hheap, hsz, hrel⟩ := hi.obj r _ b c k hcs hb
   have hcell : ∀ j, j < part.length → w.cell? ((⟨b, off, none⟩ : Addr).add j) = some (cur.getD (off + j) undef) := by
    intro j hj
    rw [Addr.add_lit, cell_own hheap, Array.getElem?_eq_getElem (by omega)]
    simp [Array.getD, show off + j < cur.size by omega]
   have := load_gen (S := S) (β := β) (w := w) ht ⟨b, off, none⟩ part (fun j => cur.getD (off + j) undef) hl hcell (fun j x hx => ?_) hm
   ·obtain ⟨u, hu, hrel⟩ := this
    exact ⟨u, by simpa [Instr.loadAt, Instr.sureAddr] using hu, hrel⟩
   ·have hj := lt_of_getElem? hx
    refine hrel (off + j) _ x ?_ (by rw [← hget j (by omega)]; exact hx)
    rw [Array.getElem?_eq_getElem (by omega)]
    simp [Array.getD, show off + j < cur.size by omega]
  ·rename_i k0 cs hcs
   obtain ⟨part, hp, hm⟩ := Option.bind_eq_some_iff.1 hd
   obtain ⟨hl, hle, hget⟩ := cut_spec hp
   obtain ⟨_, _, _, hlen, cur, e, hheap, hsz, hrel⟩ := hi.obj r _ b c k hcs hb
   have hcell : ∀ j, j < part.length → w.cell? ((⟨b, off, none⟩ : Addr).add j) = some (cur.getD (off + j) undef) := by
    intro j hj
    rw [Addr.add_lit, cell_own hheap, Array.getElem?_eq_getElem (by omega)]
    simp [Array.getD, show off + j < cur.size by omega]
   have := load_gen (S := S) (β := β) (w := w) ht ⟨b, off, none⟩ part (fun j => cur.getD (off + j) undef) hl hcell (fun j x hx => ?_) hm
   ·obtain ⟨u, hu, hrel⟩ := this
    exact ⟨u, by simpa [Instr.loadAt, Instr.sureAddr] using hu, hrel⟩
   ·have hj := lt_of_getElem? hx
    refine hrel (off + j) _ x ?_ (by rw [← hget j (by omega)]; exact hx)
    rw [Array.getElem?_eq_getElem (by omega)]
    simp [Array.getD, show off + j < cur.size by omega]
  ·cases hd
 | eptr r q off b c k p hb hp =>
  subst hp
  simp only [loadD] at hd
  split at hd
  ·rename_i k' es hes
   split at hd
   ·rename_i x hx
    obtain ⟨y, hy, rfl⟩ := Option.map_eq_some_iff.1 hd
    obtain ⟨part, hp, hm⟩ := Option.bind_eq_some_iff.1 hy
    obtain ⟨hl, hle, hget⟩ := cut_spec hp
    obtain ⟨_, hk0, _, hlen, hsol, cur, e, hheap, hsz, hrel⟩ := hi.obj r _ b c k hes hb
    have hxl := (hsol q x hx).2
    have hq : q < es.length := lt_of_getElem? hx
    have hin : ∀ j, j < part.length → q * k + off + j < cur.size := by
     intro j hj
     have : (q + 1) * k ≤ c * k := Nat.mul_le_mul_right _ (by omega)
     rw [Nat.add_mul] at this
     omega
    have hcell : ∀ j, j < (part.map D.v).length → w.cell? ((⟨b, q * k + off, none⟩ : Addr).add j) = some (cur.getD (q * k + off + j) undef) := by
     intro j hj
     have := hin j (by simpa using hj)
     rw [Addr.add_lit, cell_own hheap, Array.getElem?_eq_getElem this]
     simp [Array.getD, this]
    have := load_gen (S := S) (β := β) (w := w) ht ⟨b, q * k + off, none⟩ (part.map .v) (fun j => cur.getD (q * k + off + j) undef) (by simpa using hl) hcell (fun j z hz => ?_) (d := .v y) (by rw [mkOf_map, hm]; rfl)
    ·obtain ⟨u, hu, hrel⟩ := this
     exact ⟨u, by simpa [Instr.loadAt, Instr.sureAddr] using hu, hrel⟩
    ·simp only [List.getElem?_map] at hz
     obtain ⟨z', hz', rfl⟩ := Option.map_eq_some_iff.1 hz
     have hj := lt_of_getElem? hz'
     have := hin j hj
     refine .v _ _ (hrel q (off + j) x z' _ hx (by rw [← hget j (by omega)]; exact hz') ?_)
     rw [← Nat.add_assoc, Array.getElem?_eq_getElem this]
     simp [Array.getD, this]
   ·cases hd
  ·cases hd
 | vptr b off cells vals hs hr =>
  simp only [loadD] at hd
  obtain ⟨y, hy, rfl⟩ := Option.map_eq_some_iff.1 hd
  obtain ⟨part, hp, hm⟩ := Option.bind_eq_some_iff.1 hy
  obtain ⟨hl, hle, hget⟩ := cut_spec hp
  have := load_gen (S := S) (β := β) (w := w) ht ⟨b, off, none⟩ (part.map .v) vals (by simpa using hl) (fun j hj => ?_) (fun j z hz => ?_) (d := .v y) (by rw [mkOf_map, hm]; rfl)
  ·obtain ⟨u, hu, hrel⟩ := this
   exact ⟨u, by simpa [Instr.loadAt, Instr.sureAddr] using hu, hrel⟩
  ·rw [Addr.add_lit]
   exact (hs j (by simp at hj; omega)).2
  ·simp only [List.getElem?_map] at hz
   obtain ⟨z', hz', rfl⟩ := Option.map_eq_some_iff.1 hz
   have hj := lt_of_getElem? hz'
   exact .v _ _ (hr j z' (by have := hget j (by omega); simp at this; rw [← this]; exact hz'))
 | _ => simp [loadD] at hd
theorem loadD_sound {P : Program} {S : Nat → Nat → Prop} {β : Blocks} {w : World} {h : List AObj} (hi : HInv S β w h) {t : Nat} {i : TI} (ht : tiOf P t = some i) {p d : D} (hd : loadD i h p = some d)
  {v : Value} (hv : RelD S β w v p) : ∃ u, (Instr.loadAt t v).run P w = .ok u w ∧ RelD S β w u d := by
 by_cases hp : ∃ cs, p = .v (.ptr cs)
 ·obtain ⟨cs, rfl⟩ := hp
  exact loadD_sound0 (p := .vptr cs) hi ht (by simp) hd hv.of_v.as_vptr
 ·exact loadD_sound0 hi ht (fun cs e => hp ⟨cs, e⟩) hd hv
end Go.Abs
