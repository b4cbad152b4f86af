import Derived.Test.YtkmmaelmdioleaaGreatDoorAbsR
import Derived.Great.BuildSlice
import Derived.Laws.CopyOwn
namespace Go.Abs
set_option linter.unusedVariables false
set_option linter.unusedSimpArgs false
set_option linter.unnecessarySimpa false
theorem tiOf_spec {P : Program} {t : Nat} {i : TI} (h : tiOf P t = some i) : ∃ (info : TypeInfo) (desc : TypeDesc) (z : Value), P.info? t = some info ∧ P.underlying t = some desc ∧ info.zero = some z ∧
  ofValue z = some i.zero ∧ tkOf desc = i.kind ∧ i.kind.isOther = false ∧ info.size = i.size ∧ info.bytes = i.bytes ∧ (i.eqOk = true → P.eqGuardType P.depth t = false ∧ P.stoodInHeld t = false) := by
 unfold tiOf at h
 split at h
 ·rename_i info desc h1 h2
  split at h
  ·rename_i z hz
   split at h
   ·rename_i x hx
    split at h
    ·cases h
    ·rename_i ho
     cases h
     exact ⟨info, desc, z, h1, h2, hz, hx, rfl, by simpa using ho, rfl, rfl, by simp⟩
   ·cases h
  ·cases h
 ·cases h
theorem tiOf_meths {P : Program} {t : Nat} {i : TI} (h : tiOf P t = some i) : ∃ info : TypeInfo, P.info? t = some info ∧ i.meths = info.methods.toList.map fun m => (m.name, if m.path.isEmpty then m.func else none) := by
 unfold tiOf at h
 split at h
 ·rename_i info desc h1 h2
  split at h
  ·split at h
   ·split at h
    ·cases h
    ·cases h
     exact ⟨info, h1, rfl⟩
   ·cases h
  ·cases h
 ·cases h
theorem tkOf_slice {d : TypeDesc} {e : Nat} (h : tkOf d = .slice e) : d = .slice e := by
 cases d <;> simp only [tkOf] at h <;> first | (cases h; rfl) | cases h | (split at h <;> cases h)
theorem tkOf_array {d : TypeDesc} {n e : Nat} (h : tkOf d = .array n e) : d = .array n e := by
 cases d <;> simp only [tkOf] at h <;> first | (cases h; rfl) | cases h | (split at h <;> cases h)
theorem tkOf_int {d : TypeDesc} {k : IntKind} (h : tkOf d = .int k) : d = .int k := by
 cases d <;> simp only [tkOf] at h <;> first | (cases h; rfl) | cases h | (split at h <;> cases h)
theorem tkOf_bool {d : TypeDesc} (h : tkOf d = .bool) : d = .bool := by
 cases d <;> simp only [tkOf] at h <;> first | rfl | cases h | (split at h <;> cases h)
theorem tkOf_str {d : TypeDesc} (h : tkOf d = .str) : d = .string := by
 cases d <;> simp only [tkOf] at h <;> first | rfl | cases h | (split at h <;> cases h)
theorem tkOf_ptr {d : TypeDesc} {e : Nat} (h : tkOf d = .ptr e) : d = .pointer e := by
 cases d <;> simp only [tkOf] at h <;> first | (cases h; rfl) | cases h | (split at h <;> cases h)
theorem tkOf_func {d : TypeDesc} (h : tkOf d = .func) : ∃ a b c, d = .func a b c := by
 cases d <;> simp only [tkOf] at h <;> first | exact ⟨_, _, _, rfl⟩ | cases h | (split at h <;> cases h)
theorem tkOf_map {d : TypeDesc} {k e : Nat} (h : tkOf d = .map k e) : d = .map k e := by
 cases d <;> simp only [tkOf] at h <;> first | (cases h; rfl) | cases h | (split at h <;> cases h)
theorem tkOf_struct {d : TypeDesc} {fs : List (Nat × Nat)} (h : tkOf d = .struct fs) : ∃ fields : Array Field, d = .struct fields ∧ fs = fields.toList.map (fun f => (f.offset, f.type)) ∧ ∀ f ∈ fields.toList, f.name ≠ "_" := by
 cases d <;> simp only [tkOf] at h <;> try cases h
 split at h
 ·rename_i fields ha
  cases h
  exact ⟨fields, rfl, rfl, fun f hf => by have := List.all_eq_true.1 ha f hf; simpa using this⟩
 ·cases h
theorem run_typeInfo {P : Program} {t : Nat} {i : TypeInfo} (h : P.info? t = some i) (w : World) : (typeInfo t).run P w = .ok i w := by
 simp [typeInfo, h]
theorem run_sizeOf {P : Program} {t : Nat} {i : TypeInfo} (h : P.info? t = some i) (w : World) : (sizeOf t).run P w = .ok i.size w := by
 simp [sizeOf, typeInfo, h]
theorem run_isAgg {P : Program} {t : Nat} {d : TypeDesc} (h : P.underlying t = some d) (ho : (tkOf d).isOther = false) (w : World) : (isAgg t).run P w = .ok (tkOf d).isAgg w := by
 unfold isAgg
 simp only [Sem.run_bind, run_underlying h, Result.andThen_ok]
 cases d with
 | struct fs =>
  by_cases hh : (fs.toList.all fun f => f.name != "_") = true
  ·simp only [tkOf, hh, if_true]; rfl
  ·simp only [tkOf, hh, if_false, Bool.false_eq_true] at ho; cases ho
 | _ => first | rfl | (simp [tkOf, TK.isOther] at ho)
theorem RelV.oneCell {S : Nat → Nat → Prop} {w : World} {v : Value} {x : V} (h : RelV S w v x) (hs : x.scalar = true) : v.oneCell' = true := by
 cases h <;> first | rfl | (simp [V.scalar] at hs)
theorem RelD.oneCell {S : Nat → Nat → Prop} {β : Blocks} {w : World} {v : Value} {d : D} (h : RelD S β w v d) (hs : d.scalar = true) : v.oneCell' = true := by
 cases h <;> first | rfl | (simp [D.scalar] at hs; done) | skip
 rename_i x h
 exact h.oneCell hs
theorem oneCell_cells {v : Value} (h : v.oneCell' = true) : v.cells = #[v] := by
 cases v <;> first | rfl | (simp [Value.oneCell'] at h)
theorem RelV.cells {S : Nat → Nat → Prop} {w : World} {v : Value} {x : V} (h : RelV S w v x) (hs : x.solid = true) :
  v.cells.size = x.cells.length ∧ ∀ (j : Nat) (u : Value) (y : V), v.cells[j]? = some u → x.cells[j]? = some y → RelV S w u y := by
 by_cases hx : x.scalar = true
 ·have hv := oneCell_cells (h.oneCell hx)
  have hc : x.cells = [x] := by cases x <;> first | rfl | (simp [V.scalar] at hx)
  rw [hv, hc]
  refine ⟨rfl, fun j u y hu hy => ?_⟩
  cases j with
  | zero => simp at hu hy; subst hu; subst hy; exact h
  | succ j => simp at hu
 ·cases h <;> simp [V.scalar] at hx
  ·rename_i vs cs hl hr
   exact ⟨hl, hr⟩
  ·simp [V.solid] at hs
theorem RelV.cells_one {S : Nat → Nat → Prop} {w : World} {v : Value} {x : V} (h : RelV S w v x) (hs : x.solid = true) : ∀ u ∈ v.cells.toList, u.oneCell' = true := by
 intro u hu
 obtain ⟨j, hj⟩ := List.getElem?_of_mem hu
 obtain ⟨hl, hr⟩ := h.cells hs
 have hj' : v.cells[j]? = some u := by simpa using hj
 have hlt : j < v.cells.size := (Array.getElem?_eq_some_iff.1 hj').1
 have hy : ∃ y, x.cells[j]? = some y := ⟨_, List.getElem?_eq_getElem (by omega)⟩
 obtain ⟨y, hy⟩ := hy
 refine (hr j u y hj' hy).oneCell ?_
 have hm := List.mem_of_getElem? hy
 cases x <;> simp [V.cells] at hm <;> first | (subst hm; rfl) | skip
 ·simp [V.solid] at hs; exact hs y hm
 ·simp [V.solid] at hs
theorem RelD.cells {S : Nat → Nat → Prop} {β : Blocks} {w : World} {v : Value} {x : D} (h : RelD S β w v x) (hs : x.solid = true) :
  v.cells.size = x.cells.length ∧ ∀ (j : Nat) (u : Value) (y : D), v.cells[j]? = some u → x.cells[j]? = some y → RelD S β w u y := by
 cases h with
 | v v x h =>
  obtain ⟨h1, h2⟩ := h.cells hs
  refine ⟨by simp [D.cells, h1], fun j u y hu hy => ?_⟩
  simp only [D.cells, List.getElem?_map] at hy
  cases hc : x.cells[j]? with
  | none => simp [hc] at hy
  | some z => simp [hc] at hy; subst hy; exact .v _ _ (h2 j u z hu hc)
 | agg vs cs hl hr => exact ⟨hl, hr⟩
 | undef v => simp [D.solid] at hs
 | tuple vs cs hl hr => simp [D.solid] at hs
 | ptr r off b c k h =>
  refine ⟨rfl, fun j u y hu hy => ?_⟩
  cases j with
  | zero => simp [D.cells, Value.cells] at hu hy; subst hu; subst hy; exact .ptr r off b c k h
  | succ j => simp [Value.cells] at hu
 | eptr r i off b c k p h hp =>
  refine ⟨rfl, fun j u y hu hy => ?_⟩
  cases j with
  | zero => simp [D.cells, Value.cells] at hu hy; subst hu; subst hy; exact .eptr r i off b c k p h hp
  | succ j => simp [Value.cells] at hu
 | vptr b off cells vals hs' hr =>
  refine ⟨rfl, fun j u y hu hy => ?_⟩
  cases j with
  | zero => simp [D.cells, Value.cells] at hu hy; subst hu; subst hy; exact .vptr b off cells vals hs' hr
  | succ j => simp [Value.cells] at hu
 | map r b c k h =>
  refine ⟨rfl, fun j u y hu hy => ?_⟩
  cases j with
  | zero => simp [D.cells, Value.cells] at hu hy; subst hu; subst hy; exact .map r b c k h
  | succ j => simp [Value.cells] at hu
 | osl r off len b c k p cap full h hb hp hcap =>
  refine ⟨rfl, fun j u y hu hy => ?_⟩
  cases j with
  | zero => simp [D.cells, Value.cells] at hu hy; rw [← hu, ← hy]; exact .osl r off len b c k p cap full h hb hp hcap
  | succ j => simp [Value.cells] at hu
 | tsl t b c k n es h hn hs' hv =>
  refine ⟨rfl, fun j u y hu hy => ?_⟩
  cases j with
  | zero => simp [D.cells, Value.cells] at hu hy; rw [← hu, ← hy]; exact .tsl t b c k n es h hn hs' hv
  | succ j => simp [Value.cells] at hu
 | func f a c fs cs hl hl' hr hr' =>
  refine ⟨rfl, fun j u y hu hy => ?_⟩
  cases j with
  | zero => simp [D.cells, Value.cells] at hu hy; subst hu; subst hy; exact .func f a c fs cs hl hl' hr hr'
  | succ j => simp [Value.cells] at hu
 | box t u d hr =>
  refine ⟨rfl, fun j u' y hu hy => ?_⟩
  cases j with
  | zero => simp [D.cells, Value.cells] at hu hy; subst hu; subst hy; exact .box t u d hr
  | succ j => simp [Value.cells] at hu
theorem RelD.cells_one {S : Nat → Nat → Prop} {β : Blocks} {w : World} {v : Value} {x : D} (h : RelD S β w v x) (hs : x.solid = true) : ∀ u ∈ v.cells.toList, u.oneCell' = true := by
 intro u hu
 obtain ⟨j, hj⟩ := List.getElem?_of_mem hu
 obtain ⟨hl, hr⟩ := h.cells hs
 have hj' : v.cells[j]? = some u := by simpa using hj
 have hlt : j < v.cells.size := (Array.getElem?_eq_some_iff.1 hj').1
 obtain ⟨y, hy⟩ : ∃ y, x.cells[j]? = some y := ⟨_, List.getElem?_eq_getElem (by omega)⟩
 refine (hr j u y hj' hy).oneCell ?_
 have hm := List.mem_of_getElem? hy
 cases x <;> simp [D.cells] at hm <;> first | (subst hm; first | rfl | (simp [D.solid] at hs; done)) | skip
 ·rename_i x
  obtain ⟨z, hz, rfl⟩ := hm
  cases x <;> simp [V.cells] at hz <;> first | (subst hz; rfl) | skip
  ·simp [D.solid, V.solid] at hs; exact hs z hz
  ·simp [D.solid, V.solid] at hs
 ·simp [D.solid] at hs; exact hs y hm
theorem RelD.unt {S : Nat → Nat → Prop} {β : Blocks} {w : World} {v : Value} {d : D} (h : RelD S β w v d) : RelD S β w v d.unt := by
 cases d with
 | tsl t es => cases h with
  | tsl _ b c k n _ h hn hs hv => exact .v _ _ hv
 | _ => exact h
theorem RelD.unp {S : Nat → Nat → Prop} {β : Blocks} {w : World} {v : Value} {d : D} (h : RelD S β w v d) : RelD S β w v d.unp := by
 cases d with
 | tsl t es => cases h with
  | tsl _ b c k n _ h hn hs hv => exact .v _ _ hv
 | v x => cases x with
  | sl fl es =>
   have h2 : RelV S w v (.sl fl es) := by cases h with | v _ _ h => exact h
   refine .v _ _ ?_
   cases h2 with
   | slnil fl h => exact .slnil _ (by decide)
   | slemp fl a cap h hf hm => exact .slemp _ a cap (by decide) (fun h => by cases h) hm
   | sl fl b off cap k n es vals hn h hf hc hm hk hs hr => exact .sl _ b off cap k n es vals hn (by decide) (fun h => by cases h) hc hm hk hs hr
  | _ => exact h
 | _ => exact h
theorem RelD.into {S : Nat → Nat → Prop} {β : Blocks} {w : World} {v : Value} {u : Bool} {p d : D} (h : RelD S β w v d) : RelD S β w v (D.into u p d) := by
 unfold D.into
 split
 ·exact h.unt
 ·split
  ·exact h.unp
  ·exact h
theorem pures_spec : ∀ {ds : List D} {vs : List V}, pures ds = some vs → ds = vs.map .v
 | [], vs, h => by simp [pures] at h; subst h; rfl
 | d :: r, vs, h => by
  simp only [pures] at h
  split at h
  ·rename_i x xs hx hxs
   cases h
   rw [pures_spec hxs]
   cases d <;> simp [D.pure?] at hx
   subst hx; rfl
  ·cases h
theorem pures_map (vs : List V) : pures (vs.map .v) = some vs := by
 induction vs with
 | nil => rfl
 | cons x r ih => simp [pures, D.pure?, ih]
theorem RelD.of_v {S : Nat → Nat → Prop} {β : Blocks} {w : World} {v : Value} {x : V} (h : RelD S β w v (.v x)) : RelV S w v x := by
 cases h; assumption
theorem rel_mkAgg {S : Nat → Nat → Prop} {β : Blocks} {w : World} {vs : Array Value} {cs : List D} (hl : vs.size = cs.length)
  (hr : ∀ (i : Nat) (v : Value) (x : D), vs[i]? = some v → cs[i]? = some x → RelD S β w v x) : RelD S β w (.agg vs) (mkAgg cs) := by
 unfold mkAgg
 split
 ·rename_i xs hx
  have := pures_spec hx
  subst this
  refine .v _ _ (.agg vs xs (by simpa using hl) (fun i v x hv hx' => (hr i v (.v x) hv (by simp [hx'])).of_v))
 ·exact .agg vs cs hl hr
theorem rel_mkTuple {S : Nat → Nat → Prop} {β : Blocks} {w : World} {vs : Array Value} {cs : List D} (hl : vs.size = cs.length)
  (hr : ∀ (i : Nat) (v : Value) (x : D), vs[i]? = some v → cs[i]? = some x → RelD S β w v x) : RelD S β w (.tuple vs) (mkTuple cs) := by
 unfold mkTuple
 split
 ·rename_i xs hx
  have := pures_spec hx
  subst this
  refine .v _ _ (.tuple vs xs (by simpa using hl) (fun i v x hv hx' => (hr i v (.v x) hv (by simp [hx'])).of_v))
 ·exact .tuple vs cs hl hr
theorem mkOf_map (agg : Bool) (l : List V) : mkOf agg (l.map .v) = (mkOfV agg l).map .v := by
 cases agg
 ·cases l with
  | nil => rfl
  | cons a r => cases r <;> rfl
 ·simp [mkOf, mkOfV, mkAgg, pures_map]
theorem ofScalar_rel {S : Nat → Nat → Prop} {w : World} {v : Value} {x : V} (h : ofScalar v = some x) : RelV S w v x := by
 unfold ofScalar at h
 split at h <;> first | cases h | skip
 all_goals first | exact .bool _ | exact .int _ _ | exact .str _ | exact .nilptr | exact .slnil _ (by decide) | exact .nilmap | exact .nilfunc | exact .nilif
theorem ofScalars_spec : ∀ {l : List Value} {xs : List V}, ofScalars l = some xs → l.length = xs.length ∧ ∀ (i : Nat) (v : Value) (x : V), l[i]? = some v → xs[i]? = some x → ofScalar v = some x
 | [], xs, h => by simp [ofScalars] at h; subst h; simp
 | a :: r, xs, h => by
  simp only [ofScalars] at h
  split at h
  ·rename_i y ys hy hys
   cases h
   obtain ⟨h1, h2⟩ := ofScalars_spec hys
   refine ⟨by simp [h1], fun i v x hv hx => ?_⟩
   cases i with
   | zero => simp at hv hx; subst hv; subst hx; exact hy
   | succ i => simp at hv hx; exact h2 i v x hv hx
  ·cases h
theorem ofValue_rel {S : Nat → Nat → Prop} {w : World} {v : Value} {x : V} (h : ofValue v = some x) : RelV S w v x := by
 unfold ofValue at h
 split at h
 ·rename_i cs
  split at h
  ·rename_i xs hx
   cases h
   obtain ⟨h1, h2⟩ := ofScalars_spec hx
   exact .agg cs xs (by simpa using h1) (fun i v x hv hx => ofScalar_rel (h2 i v x (by simpa using hv) hx))
  ·cases h
 ·exact ofScalar_rel h
theorem load_gen {P : Program} {S : Nat → Nat → Prop} {β : Blocks} {w : World} {t : Nat} {i : TI} (ht : tiOf P t = some i) (a : Addr) (part : List D) (f : Nat → Value) (hl : part.length = i.size)
  (hf : ∀ j, j < part.length → w.cell? (a.add j) = some (f j)) (hr : ∀ (j : Nat) (x : D), part[j]? = some x → RelD S β w (f j) x) {d : D} (hd : mkOf i.kind.isAgg part = some d) :
  ∃ u, (loadVar t a).run P w = .ok u w ∧ RelD S β w u d := by
 obtain ⟨info, desc, z, h1, h2, h3, h4, h5, h6, h7, h8, _⟩ := tiOf_spec ht
 unfold loadVar
 rw [← h5] at h6 hd
 simp only [Sem.run_bind, run_isAgg h2 h6, Result.andThen_ok]
 cases hagg : (tkOf desc).isAgg with
 | true =>
  rw [hagg] at hd
  simp only [mkOf, if_true, Option.some.injEq] at hd
  subst hd
  have hrun := run_loadCells (P := P) w a i.size f (fun j hj => hf j (by omega))
  simp only [if_true, Sem.run_bind, run_sizeOf h1, h7, Result.andThen_ok, hrun, Sem.run_pure]
  refine ⟨_, rfl, rel_mkAgg (by simp [hl]) (fun j v x hv hx => ?_)⟩
  have hj : j < part.length := lt_of_getElem? hx
  simp at hv
  obtain ⟨q, hq, rfl⟩ := hv
  rw [List.getElem?_range (by omega)] at hq
  cases hq
  exact hr j x hx
 | false =>
  rw [hagg] at hd
  simp only [mkOf, Bool.false_eq_true, if_false] at hd
  split at hd
  ·cases hd
   rename_i x
   have h0 := hf 0 (by simp)
   simp only [Addr.add_zero'] at h0
   simp only [Bool.false_eq_true, if_false, run_load, h0]
   exact ⟨f 0, rfl, hr 0 _ (by simp)⟩
  ·cases hd
theorem cut_spec {α : Type} {l : List α} {off n : Nat} {p : List α} (h : cut l off n = some p) : p.length = n ∧ off + n ≤ l.length ∧ ∀ j, j < n → p[j]? = l[off + j]? := by
 unfold cut at h
 split at h
 ·rename_i hle
  cases h
  refine ⟨by simp; omega, hle, fun j hj => ?_⟩
  rw [List.getElem?_take, if_pos hj, List.getElem?_drop]
 ·cases h
theorem cell_own {w : World} {b j : Nat} {cur : Array Value} {e : TypeId} (h : w.heap[b]? = some (.cells cur e (0, 0))) : w.cell? ⟨b, j, none⟩ = cur[j]? := cell_of_row w b j cur e (0, 0) h
theorem RelV.as_vptr {S : Nat → Nat → Prop} {β : Blocks} {w : World} {v : Value} {cs : List V} (h : RelV S w v (.ptr cs)) : RelD S β w v (.vptr cs) := by
 cases h with
 | ptr b off _ vals hs hr => exact .vptr b off _ vals hs hr
theorem loadD_sound0 {P : Program} {S : Nat → Nat → Prop} {β : Blocks} {w : World} {h : List AObj} (hi : HInv S β w h) {t : Nat} {i : TI} (ht : tiOf P t = some i) {p d : D} (hnp : ∀ cs, p ≠ .v (.ptr cs)) (hd : loadD i h p = some d)
  {v : Value} (hv : RelD S β w v p) : ∃ u, (Instr.loadAt t v).run P w = .ok u w ∧ RelD S β w u d := by
 cases hv with
 | v _ x h => cases x <;> first | (simp [loadD] at hd; done) | exact absurd rfl (hnp _)
 | ptr r off b c k hb =>
  simp only [loadD] at hd
  split at hd
  ·rename_i cs hcs
   obtain ⟨part, hp, hm⟩ := Option.bind_eq_some_iff.1 hd
   obtain ⟨hl, hle, hget⟩ := cut_spec hp
   obtain ⟨_, _, hlen, cur, e, hheap, hsz, hrel⟩ := hi.obj r _ b c k hcs hb
   have hcell : ∀ j, j < part.length → w.cell? ((⟨b, off, none⟩ : Addr).add j) = some (cur.getD (off + j) undef) := by
    intro j hj
    rw [Addr.add_lit, cell_own hheap, Array.getElem?_eq_getElem (by omega)]
    simp [Array.getD, show off + j < cur.size by omega]
   have := load_gen (S := S) (β := β) (w := w) ht ⟨b, off, none⟩ part (fun j => cur.getD (off + j) undef) hl hcell (fun j x hx => ?_) hm
   ·obtain ⟨u, hu, hrel⟩ := this
    exact ⟨u, by simpa [Instr.loadAt, Instr.sureAddr] using hu, hrel⟩
   ·have hj := lt_of_getElem? hx
    refine hrel (off + j) _ x ?_ (by rw [← hget j (by omega)]; exact hx)
    rw [Array.getElem?_eq_getElem (by omega)]
    simp [Array.getD, show off + j < cur.size by omega]
  ·rename_i k0 cs hcs
   obtain ⟨part, hp, hm⟩ := Option.bind_eq_some_iff.1 hd
   obtain ⟨hl, hle, hget⟩ := cut_spec hp
   obtain ⟨_, _, _, hlen, cur, e, hheap, hsz, hrel⟩ := hi.obj r _ b c k hcs hb
   have hcell : ∀ j, j < part.length → w.cell? ((⟨b, off, none⟩ : Addr).add j) = some (cur.getD (off + j) undef) := by
    intro j hj
    rw [Addr.add_lit, cell_own hheap, Array.getElem?_eq_getElem (by omega)]
    simp [Array.getD, show off + j < cur.size by omega]
   have := load_gen (S := S) (β := β) (w := w) ht ⟨b, off, none⟩ part (fun j => cur.getD (off + j) undef) hl hcell (fun j x hx => ?_) hm
   ·obtain ⟨u, hu, hrel⟩ := this
    exact ⟨u, by simpa [Instr.loadAt, Instr.sureAddr] using hu, hrel⟩
   ·have hj := lt_of_getElem? hx
    refine hrel (off + j) _ x ?_ (by rw [← hget j (by omega)]; exact hx)
    rw [Array.getElem?_eq_getElem (by omega)]
    simp [Array.getD, show off + j < cur.size by omega]
  ·cases hd
 | eptr r q off b c k p hb hp =>
  subst hp
  simp only [loadD] at hd
  split at hd
  ·rename_i k' es hes
   split at hd
   ·rename_i x hx
    obtain ⟨y, hy, rfl⟩ := Option.map_eq_some_iff.1 hd
    obtain ⟨part, hp, hm⟩ := Option.bind_eq_some_iff.1 hy
    obtain ⟨hl, hle, hget⟩ := cut_spec hp
    obtain ⟨_, hk0, _, hlen, hsol, cur, e, hheap, hsz, hrel⟩ := hi.obj r _ b c k hes hb
    have hxl := (hsol q x hx).2
    have hq : q < es.length := lt_of_getElem? hx
    have hin : ∀ j, j < part.length → q * k + off + j < cur.size := by
     intro j hj
     have : (q + 1) * k ≤ c * k := Nat.mul_le_mul_right _ (by omega)
     rw [Nat.add_mul] at this
     omega
    have hcell : ∀ j, j < (part.map D.v).length → w.cell? ((⟨b, q * k + off, none⟩ : Addr).add j) = some (cur.getD (q * k + off + j) undef) := by
     intro j hj
     have := hin j (by simpa using hj)
     rw [Addr.add_lit, cell_own hheap, Array.getElem?_eq_getElem this]
     simp [Array.getD, this]
    have := load_gen (S := S) (β := β) (w := w) ht ⟨b, q * k + off, none⟩ (part.map .v) (fun j => cur.getD (q * k + off + j) undef) (by simpa using hl) hcell (fun j z hz => ?_) (d := .v y) (by rw [mkOf_map, hm]; rfl)
    ·obtain ⟨u, hu, hrel⟩ := this
     exact ⟨u, by simpa [Instr.loadAt, Instr.sureAddr] using hu, hrel⟩
    ·simp only [List.getElem?_map] at hz
     obtain ⟨z', hz', rfl⟩ := Option.map_eq_some_iff.1 hz
     have hj := lt_of_getElem? hz'
     have := hin j hj
     refine .v _ _ (hrel q (off + j) x z' _ hx (by rw [← hget j (by omega)]; exact hz') ?_)
     rw [← Nat.add_assoc, Array.getElem?_eq_getElem this]
     simp [Array.getD, this]
   ·cases hd
  ·cases hd
 | vptr b off cells vals hs hr =>
  simp only [loadD] at hd
  obtain ⟨y, hy, rfl⟩ := Option.map_eq_some_iff.1 hd
  obtain ⟨part, hp, hm⟩ := Option.bind_eq_some_iff.1 hy
  obtain ⟨hl, hle, hget⟩ := cut_spec hp
  have := load_gen (S := S) (β := β) (w := w) ht ⟨b, off, none⟩ (part.map .v) vals (by simpa using hl) (fun j hj => ?_) (fun j z hz => ?_) (d := .v y) (by rw [mkOf_map, hm]; rfl)
  ·obtain ⟨u, hu, hrel⟩ := this
   exact ⟨u, by simpa [Instr.loadAt, Instr.sureAddr] using hu, hrel⟩
  ·rw [Addr.add_lit]
   exact (hs j (by simp at hj; omega)).2
  ·simp only [List.getElem?_map] at hz
   obtain ⟨z', hz', rfl⟩ := Option.map_eq_some_iff.1 hz
   have hj := lt_of_getElem? hz'
   exact .v _ _ (hr j z' (by have := hget j (by omega); simp at this; rw [← this]; exact hz'))
 | _ => simp [loadD] at hd
theorem loadD_sound {P : Program} {S : Nat → Nat → Prop} {β : Blocks} {w : World} {h : List AObj} (hi : HInv S β w h) {t : Nat} {i : TI} (ht : tiOf P t = some i) {p d : D} (hd : loadD i h p = some d)
  {v : Value} (hv : RelD S β w v p) : ∃ u, (Instr.loadAt t v).run P w = .ok u w ∧ RelD S β w u d := by
 by_cases hp : ∃ cs, p = .v (.ptr cs)
 ·obtain ⟨cs, rfl⟩ := hp
  exact loadD_sound0 (p := .vptr cs) hi ht (by simp) hd hv.of_v.as_vptr
 ·exact loadD_sound0 hi ht (fun cs e => hp ⟨cs, e⟩) hd hv
variable {DR : Prop}
def spliceA (cur : Array Value) (off : Nat) (vs : List Value) : Array Value := (cur.toList.take off ++ vs ++ cur.toList.drop (off + vs.length)).toArray
theorem spliceA_size {cur : Array Value} {off : Nat} {vs : List Value} (h : off + vs.length ≤ cur.size) : (spliceA cur off vs).size = cur.size := by
 simp [spliceA]; omega
theorem splice_get {α : Type} {l : List α} {off : Nat} {x : List α} (h : off + x.length ≤ l.length) (j : Nat) :
  (l.take off ++ x ++ l.drop (off + x.length))[j]? = if off ≤ j ∧ j < off + x.length then x[j - off]? else l[j]? := by
 rw [List.append_assoc, List.getElem?_append, List.length_take, Nat.min_eq_left (by omega)]
 by_cases h1 : j < off
 ·rw [if_pos h1, if_neg (by omega), List.getElem?_take, if_pos h1]
 ·rw [if_neg h1, List.getElem?_append]
  by_cases h2 : j - off < x.length
  ·rw [if_pos h2, if_pos (by omega)]
  ·rw [if_neg h2, if_neg (by omega), List.getElem?_drop]
   congr 1; omega
theorem spliceA_get {cur : Array Value} {off : Nat} {vs : List Value} (h : off + vs.length ≤ cur.size) (j : Nat) :
  (spliceA cur off vs)[j]? = if off ≤ j ∧ j < off + vs.length then vs[j - off]? else cur[j]? := by
 have := splice_get (l := cur.toList) (off := off) (x := vs) (by simpa using h) j
 simpa [spliceA] using this
theorem splice_spec {α : Type} {l r : List α} {off : Nat} {x : List α} (h : splice l off x = some r) : off + x.length ≤ l.length ∧ r.length = l.length ∧ ∀ j : Nat, r[j]? = if off ≤ j ∧ j < off + x.length then x[j - off]? else l[j]? := by
 unfold splice at h
 split at h
 ·rename_i hle
  cases h
  exact ⟨hle, by simp; omega, splice_get hle⟩
 ·cases h
theorem run_store_own {P : Program} {w : World} {b off : Nat} {cur : Array Value} {e : TypeId} {vs : List Value} (hg : w.heap[b]? = some (.cells cur e (0, 0))) (hl : off + vs.length ≤ cur.size) (h1 : ∀ v ∈ vs, v.oneCell' = true) :
  (storeCells ⟨b, off, none⟩ vs).run P w = .ok () (w.setRow b (spliceA cur off vs)) := by
 have := run_storeCells_at P b off e vs 0 cur w hg (by simpa using hl) h1
 simpa [spliceA] using this
theorem mul_lt_of {i q k j : Nat} (h : i < q) (hj : j < k) : i * k + j < q * k := by
 have : (i + 1) * k ≤ q * k := Nat.mul_le_mul_right _ h
 rw [Nat.add_mul] at this
 omega
theorem storeV_spec {e y e' : V} {off k : Nat} (h : storeV e y off = some e') (hk : e.cells.length = k) (hs : e.solid = true) (hk' : e'.cells.length = k) (hy : y.solid = true) :
  off + y.cells.length ≤ k ∧ ∀ j : Nat, e'.cells[j]? = if off ≤ j ∧ j < off + y.cells.length then y.cells[j - off]? else e.cells[j]? := by
 unfold storeV at h
 split at h
 ·rename_i cs
  obtain ⟨r, hr, rfl⟩ := Option.map_eq_some_iff.1 h
  obtain ⟨h1, h2, h3⟩ := splice_spec hr
  exact ⟨by simp [V.cells] at hk; omega, h3⟩
 ·rename_i hne
  split at h
  ·rename_i h0
   obtain rfl : y = e' := by simpa using h
   subst h0
   refine ⟨by omega, fun j => ?_⟩
   split
   ·simp
   ·rename_i hh
    rw [List.getElem?_eq_none (by omega), List.getElem?_eq_none (by omega)]
  ·cases h
theorem storeD_sound {P : Program} {S : Nat → Nat → Prop} {β : Blocks} {w : World} {h h' : List AObj} (hi : HInv S β w h) {t : Nat} {i : TI} (ht : tiOf P t = some i) {p x : D} (hd : storeD i h p x = some h')
  {v u : Value} (hv : RelD S β w v p) (hu : RelD S β w u x) : ∃ w', (Instr.storeAt t v u).run P w = .ok () w' ∧ Ext DR S β w S β w' ∧ HInv S β w' h' := by
 obtain ⟨info, desc, z, g1, g2, g3, g4, g5, g6, g7, g8, _⟩ := tiOf_spec ht
 unfold storeD at hd
 split at hd
 ·rename_i hc
  rw [Bool.and_eq_true, beq_iff_eq] at hc
  obtain ⟨hsol, hlen⟩ := hc
  obtain ⟨c1, c2⟩ := hu.cells hsol
  have c3 := hu.cells_one hsol
  have hrun0 : ∀ (b off : Nat) (cur : Array Value) (e : TypeId), w.heap[b]? = some (.cells cur e (0, 0)) → off + x.cells.length ≤ cur.size →
    (Instr.storeAt t (.pointer (some ⟨b, off, none⟩)) u).run P w = .ok () (w.setRow b (spliceA cur off u.cells.toList)) := by
   intro b off cur e hg hle
   have := run_store_own (P := P) (w := w) (off := off) (vs := u.cells.toList) hg (by simp [c1]; omega) c3
   simp [Instr.storeAt, Instr.sureAddr, storeVar, run_sizeOf g1, g7, c1, hlen, this]
  cases hv with
  | ptr r off b c k hb =>
   simp only at hd
   split at hd
   ·rename_i cs hcs
    obtain ⟨cs', hsp, rfl⟩ := Option.map_eq_some_iff.1 hd
    obtain ⟨s1, s2, s3⟩ := splice_spec hsp
    obtain ⟨o1, o2, o3, cur, e, o4, o5, o6⟩ := hi.obj r _ b c k hcs hb
    refine ⟨_, hrun0 b off cur e o4 (by omega), ?_⟩
    refine own_write (DR := DR) hi hcs rfl hb (by simp) (fun j hj => setRow_other w b j _ hj) rfl rfl rfl (Nat.le_refl _) rfl (fun hk => ?_)
    refine ⟨o1, o2, by omega, _, e, setRow_heap w b cur _ e _ o4, by rw [spliceA_size (by simp [c1]; omega)]; exact o5, fun j v' d' hv' hd' => ?_⟩
    rw [spliceA_get (by simp [c1]; omega)] at hv'
    rw [s3] at hd'
    simp only [Array.length_toList, c1] at hv'
    have : RelD S β w v' d' := by
     by_cases hin : off ≤ j ∧ j < off + x.cells.length
     ·rw [if_pos hin] at hv' hd'
      exact c2 (j - off) v' d' (by simpa using hv') hd'
     ·rw [if_neg hin] at hv' hd'
      exact o6 j v' d' hv' hd'
    exact this.mono hk (fun _ _ h => h)
   ·rename_i k0 cs hcs
    obtain ⟨cs', hsp, rfl⟩ := Option.map_eq_some_iff.1 hd
    obtain ⟨s1, s2, s3⟩ := splice_spec hsp
    obtain ⟨o1, o0, o2, o3, cur, e, o4, o5, o6⟩ := hi.obj r _ b c k hcs hb
    refine ⟨_, hrun0 b off cur e o4 (by omega), ?_⟩
    refine own_write (DR := DR) hi hcs rfl hb (by simp) (fun j hj => setRow_other w b j _ hj) rfl rfl rfl (Nat.le_refl _) rfl (fun hk => ?_)
    refine ⟨o1, o0, o2, by omega, _, e, setRow_heap w b cur _ e _ o4, by rw [spliceA_size (by simp [c1]; omega)]; exact o5, fun j v' d' hv' hd' => ?_⟩
    rw [spliceA_get (by simp [c1]; omega)] at hv'
    rw [s3] at hd'
    simp only [Array.length_toList, c1] at hv'
    have : RelD S β w v' d' := by
     by_cases hin : off ≤ j ∧ j < off + x.cells.length
     ·rw [if_pos hin] at hv' hd'
      exact c2 (j - off) v' d' (by simpa using hv') hd'
     ·rw [if_neg hin] at hv' hd'
      exact o6 j v' d' hv' hd'
    exact this.mono hk (fun _ _ h => h)
   ·cases hd
  | eptr r q off b c k p hb hp =>
   subst hp
   simp only at hd
   split at hd
   ·rename_i k' es y hes
    split at hd
    ·rename_i el hel
     split at hd
     ·rename_i el' hel'
      split at hd
      ·rename_i hck
       cases hd
       rw [Bool.and_eq_true, beq_iff_eq] at hck
       obtain ⟨o1, o2, o3, o4, o5, cur, e, o6, o7, o8⟩ := hi.obj r _ b c k hes hb
       subst o1
       have hq : q < es.length := lt_of_getElem? hel
       have hyl : (D.v y).cells.length = y.cells.length := by simp [D.cells]
       obtain ⟨t1, t2⟩ := storeV_spec hel' (o5 q el hel).2 (o5 q el hel).1 hck.1 (by simpa [D.solid] using hsol)
       have hqk := mul_lt_of (k := k') (j := k' - 1) (show q < c by omega) (by omega)
       have hle : q * k' + off + (D.v y).cells.length ≤ cur.size := by
        have : (q + 1) * k' ≤ c * k' := Nat.mul_le_mul_right _ (by omega)
        rw [Nat.add_mul] at this
        rw [hyl, o7]; omega
       refine ⟨_, hrun0 b (q * k' + off) cur e o6 hle, ?_⟩
       refine own_write (DR := DR) hi hes rfl hb (by simp) (fun j hj => setRow_other w b j _ hj) rfl rfl rfl (Nat.le_refl _) rfl (fun hk => ?_)
       have hsz : q * k' + off + u.cells.toList.length ≤ cur.size := by simp only [Array.length_toList, c1]; exact hle
       refine ⟨rfl, o2, o3, by simpa using o4, fun m z hz => ?_, _, e, setRow_heap w b cur _ e _ o6, by rw [spliceA_size hsz]; exact o7, fun m j z y' v' hz hy' hv' => ?_⟩
       ·rw [List.getElem?_set] at hz
        split at hz
        ·cases hz; exact ⟨hck.2, hck.1⟩
        ·exact o5 m z hz
       ·rw [spliceA_get hsz] at hv'
        simp only [Array.length_toList, c1, hyl] at hv'
        have : RelV S w v' y' := by
         rw [List.getElem?_set] at hz
         by_cases hmq : q = m
         ·subst hmq
          rw [if_pos rfl] at hz
          split at hz
          ·cases hz
           rw [t2] at hy'
           by_cases hin : off ≤ j ∧ j < off + y.cells.length
           ·rw [if_pos (by omega)] at hv'
            rw [if_pos hin] at hy'
            have e1 : q * k' + j - (q * k' + off) = j - off := by omega
            rw [e1] at hv'
            exact (c2 (j - off) v' (.v y') (by simpa using hv') (by simp [D.cells, hy'])).of_v
           ·rw [if_neg (by omega)] at hv'
            rw [if_neg hin] at hy'
            exact o8 q j el y' v' hel hy' hv'
          ·exact absurd hq ‹_›
         ·rw [if_neg hmq] at hz
          have hj : j < k' := by have := lt_of_getElem? hy'; have := (o5 m z hz).2; omega
          have hnot : ¬ (q * k' + off ≤ m * k' + j ∧ m * k' + j < q * k' + off + y.cells.length) := by
           rcases Nat.lt_or_ge m q with hlt | hge
           ·have := mul_lt_of (k := k') hlt hj; omega
           ·have := mul_lt_of (k := k') (j := k' - 1) (show q < m by omega) (by omega); omega
          rw [if_neg hnot] at hv'
          exact o8 m j z y' v' hz hy' hv'
        exact this.mono hk
      ·cases hd
     ·cases hd
    ·cases hd
   ·cases hd
  | _ => simp at hd
 ·cases hd
theorem ofScalar_scalar {v : Value} {x : V} (h : ofScalar v = some x) : x.scalar = true := by
 unfold ofScalar at h
 split at h <;> cases h <;> rfl
theorem ofValue_solid {v : Value} {x : V} (h : ofValue v = some x) : x.solid = true := by
 unfold ofValue at h
 split at h
 ·rename_i cs
  split at h
  ·rename_i xs hx
   cases h
   obtain ⟨h1, h2⟩ := ofScalars_spec hx
   simp only [V.solid, List.all_eq_true]
   intro y hy
   obtain ⟨j, hj⟩ := List.getElem?_of_mem hy
   have hlt := lt_of_getElem? hj
   exact ofScalar_scalar (h2 j _ y (List.getElem?_eq_getElem (by omega)) hj)
  ·cases h
 ·have := ofScalar_scalar h
  cases x <;> first | rfl | (simp [V.scalar] at this)
theorem box_own {S : Nat → Nat → Prop} {β : Blocks} {w : World} {h : List AObj} (hi : HInv S β w h) (e : TypeId) (v : Value) (d : D) (hs : d.solid = true) (hm : d.cells.length ≤ maxLen) (hv : RelD S β w v d) :
  ∃ β', Ext DR S β w S β' (w.alloc (.cells v.cells e)) ∧ HInv S β' (w.alloc (.cells v.cells e)) (h ++ [.cells d.cells]) ∧ RelD S β' (w.alloc (.cells v.cells e)) (.pointer (some ⟨w.heap.size, 0, none⟩)) (.ptr h.length 0) := by
 obtain ⟨c1, c2⟩ := hv.cells hs
 have hk := keeps_alloc hi (.cells v.cells e) S (fun _ _ h => h)
 have hp : ∀ (r : Nat) x, β[r]? = some x → (β ++ [(w.heap.size, d.cells.length, 1)])[r]? = some x := fun r x hx => (getElem?_snoc _ _ _ _).2 (.inl ⟨hx, lt_of_getElem? hx⟩)
 obtain ⟨e1, e2⟩ := own_alloc (DR := DR) hi v.cells e d.cells.length 1 (.cells d.cells) rfl
  ⟨rfl, hm, rfl, v.cells, e, heap_alloc_new w _, c1, fun j u y hu hy => (c2 j u y hu hy).mono hk hp⟩
 exact ⟨_, e1, e2, .ptr _ 0 w.heap.size d.cells.length 1 (by rw [← hi.len]; simp)⟩
theorem fill_sound {S : Nat → Nat → Prop} {β : Blocks} {w : World} (place : Nat → Option (Nat × Nat)) : ∀ (parts : List (Nat × Value)) (dparts : List (Nat × D)) (cells : Array Value) (dcells : List D) (r : List D),
  parts.length = dparts.length → (∀ (i : Nat) p q, parts[i]? = some p → dparts[i]? = some q → p.1 = q.1 ∧ RelD S β w p.2 q.2) →
  cells.size = dcells.length → (∀ (i : Nat) (v : Value) (x : D), cells[i]? = some v → dcells[i]? = some x → RelD S β w v x) →
  fillD place dcells dparts = some r → ∃ cs, Instr.fill place cells parts = some cs ∧ cs.size = r.length ∧ ∀ (i : Nat) (v : Value) (x : D), cs[i]? = some v → r[i]? = some x → RelD S β w v x
 | [], [], cells, dcells, r, _, _, hl, hr, hf => by
  simp only [fillD, Option.some.injEq] at hf
  subst hf
  exact ⟨cells, rfl, hl, hr⟩
 | p :: ps, q :: qs, cells, dcells, r, hpl, hpq, hl, hr, hf => by
  obtain ⟨n, v⟩ := p
  obtain ⟨m, d⟩ := q
  have h0 := hpq 0 (n, v) (m, d) rfl rfl
  obtain ⟨hnm, hvd⟩ := h0
  dsimp only at hnm hvd
  subst hnm
  simp only [fillD] at hf
  split at hf
  ·cases hf
  ·rename_i off size hpl'
   split at hf
   ·rename_i hc
    rw [Bool.and_eq_true, beq_iff_eq] at hc
    split at hf
    ·rename_i cs' hsp
     obtain ⟨s1, s2, s3⟩ := splice_spec hsp
     obtain ⟨c1, c2⟩ := hvd.cells hc.1
     obtain ⟨g1, g2⟩ := Great.foldl_set off v.cells.toList 0 cells
     have hstep : Instr.fill place cells ((n, v) :: ps) = Instr.fill place ((v.cells.toList.zipIdx 0).foldl (fun cs (x : Value × Nat) => cs.setIfInBounds (off + x.2) x.1) cells) ps := by
      rw [Instr.fill]
      simp only [hpl']
      rw [if_neg (show ¬ (decide (v.cells.size ≠ size) || decide (off + v.cells.size > cells.size)) = true by simp; omega)]
      congr 1
      rw [← Array.foldl_toList, Array.toList_zipIdx]
     rw [hstep]
     refine fill_sound place ps qs _ cs' r (by simpa using hpl) (fun i p q hp hq => hpq (i + 1) p q (by simpa using hp) (by simpa using hq)) (by rw [g1]; omega) (fun i u x hu hx => ?_) hf
     rw [g2 i] at hu
     rw [s3] at hx
     simp only [Nat.add_zero, Array.length_toList, c1] at hu
     by_cases hin : off ≤ i ∧ i < off + d.cells.length
     ·rw [if_pos ⟨hin.1, hin.2, by omega⟩] at hu
      rw [if_pos hin] at hx
      exact c2 (i - off) u x (by simpa using hu) hx
     ·rw [if_neg (fun hh => hin ⟨hh.1, hh.2.1⟩)] at hu
      rw [if_neg hin] at hx
      exact hr i u x hu hx
    ·cases hf
   ·cases hf
 | [], _ :: _, _, _, _, hpl, _, _, _, _ => by simp at hpl
 | _ :: _, [], _, _, _, hpl, _, _, _, _ => by simp at hpl
theorem places_spec {P : Program} {T : Nat → Option TI} (hT : ∀ t i, T t = some i → tiOf P t = some i) : ∀ (fs : List Field) (ps : List (Nat × Nat)), places T (fs.map fun f => (f.offset, f.type)) = some ps →
  fs.mapM (fun f => (P.info? f.type).map fun i => (f.offset, i.size)) = some ps
 | [], ps, h => by simp [places] at h; subst h; rfl
 | f :: fs, ps, h => by
  simp only [List.map_cons, places] at h
  split at h
  ·rename_i s qs hs hqs
   cases h
   unfold sizeT at hs
   obtain ⟨i, hi, rfl⟩ := Option.map_eq_some_iff.1 hs
   obtain ⟨info, _, _, g1, _, _, _, _, _, g7, _⟩ := tiOf_spec (hT _ _ hi)
   simp [List.mapM_cons, g1, places_spec hT fs qs hqs, g7]
  ·cases h
theorem build_sound {P : Program} {T : Nat → Option TI} (hT : ∀ t i, T t = some i → tiOf P t = some i) {S : Nat → Nat → Prop} {β : Blocks} {w : World} {t : Nat} {i : TI} (ht : T t = some i) {fs : List (Nat × Nat)} (hk : i.kind = .struct fs)
  {ps : List (Nat × Nat)} (hp : places T fs = some ps) (parts : Array (Nat × Value)) (dparts : List (Nat × D)) (hl : parts.size = dparts.length)
  (hr : ∀ (i : Nat) p q, parts[i]? = some p → dparts[i]? = some q → p.1 = q.1 ∧ RelD S β w p.2 q.2) {cs : List D} (hf : fillD (ps[·]?) (i.zero.cells.map .v) dparts = some cs) :
  ∃ u, (Instr.build t parts).run P w = .ok u w ∧ RelD S β w u (mkAgg cs) := by
 obtain ⟨info, desc, z, g1, g2, g3, g4, g5, g6, g7, g8, _⟩ := tiOf_spec (hT _ _ ht)
 rw [hk] at g5
 obtain ⟨fields, rfl, rfl, _⟩ := tkOf_struct g5
 have hz : RelV S w z i.zero := ofValue_rel g4
 obtain ⟨z1, z2⟩ := hz.cells (ofValue_solid g4)
 obtain ⟨cs', h1, h2, h3⟩ := fill_sound (S := S) (β := β) (w := w) (ps[·]?) parts.toList dparts z.cells (i.zero.cells.map .v) cs (by simpa using hl) (fun i p q hp hq => hr i p q (by simpa using hp) hq) (by simpa using z1)
  (fun i v x hv hx => by
   simp only [List.getElem?_map] at hx
   obtain ⟨y, hy, rfl⟩ := Option.map_eq_some_iff.1 hx
   exact .v _ _ (z2 i v y hv hy)) hf
 have hb : P.built t parts.toList = some cs' := by
  unfold Program.built
  simp only [g1, g2, g3, places_spec hT _ _ hp]
  simpa using h1
 exact ⟨_, run_build w t parts cs' hb, rel_mkAgg h2 h3⟩
theorem clear_sound {P : Program} {T : Nat → Option TI} (hT : ∀ t i, T t = some i → tiOf P t = some i) {t : Nat} {ty : TypeId} {S : Nat → Nat → Prop} {β : Blocks} {w : World} {h h' : List AObj} (hi : HInv S β w h) {x : D} (hd : clearD T t h x = some h')
  {v : Value} (hv : RelD S β w v x) : ∃ w', (Builtin.clear_ #[t] ty #[v]).run P w = .ok (.tuple #[]) w' ∧ Ext DR S β w S β w' ∧ HInv S β w' h' := by
 unfold clearD at hd
 split at hd
 case h_2 => cases hd
 rename_i r off len full
 split at hd
 case h_2 => cases hd
 rename_i ti hti
 split at hd
 case h_2 => cases hd
 rename_i e k es hkind hes
 split at hd
 case h_2 => cases hd
 rename_i i he
 split at hd
 case isFalse => cases hd
 rename_i hc
 obtain ⟨hk1, hk2, hpos, hlen⟩ := hc
 cases hd
 cases hv with
 | osl _ _ _ b c k0 p cap _ hb hlc hp hcap =>
 subst hp
 obtain ⟨o1, o2, o3, o4, o5, cur, ety, o6, o7, o8⟩ := hi.obj r _ b c k0 hes hb
 subst o1
 obtain ⟨_, desc, _, _, g2, _, _, g5, _, _, _, _⟩ := tiOf_spec (hT t ti hti)
 obtain ⟨info, _, z, q1, _, q3, q4, _⟩ := tiOf_spec (hT e i he)
 have hdesc : desc = .slice e := by
  rw [hkind] at g5
  cases desc <;> simp [tkOf] at g5 <;> first | (rw [g5]; done) | skip
  all_goals first | (split at g5 <;> cases g5; done) | skip
 subst hdesc
 have hz : RelD S β w z (.v i.zero) := .v _ _ (ofValue_rel q4)
 have hsol : (D.v i.zero).solid = true := ofValue_solid q4
 obtain ⟨c1, c2⟩ := hz.cells hsol
 have c3 := hz.cells_one hsol
 have hzc : z.cells.size = k := by rw [c1]; simp [D.cells, hk2]
 obtain ⟨m, rfl⟩ : ∃ m, len = m + 1 := ⟨len - 1, by omega⟩
 have hzs : (Builtin.zeroCells z.cells (m + 1)).toList.length = (m + 1) * k := by rw [Array.length_toList, ← hzc]; simp [Builtin.zeroCells]
 have hfit : off * k + (Builtin.zeroCells z.cells (m + 1)).toList.length ≤ cur.size := by
  rw [hzs, o7, ← Nat.add_mul]
  exact Nat.mul_le_mul_right _ hlc
 have hst := run_store_own (P := P) (w := w) (off := off * k) (vs := (Builtin.zeroCells z.cells (m + 1)).toList) o6 hfit (fun u hu => by
  have hu : u ∈ Builtin.zeroCells z.cells (m + 1) := Array.mem_toList_iff.1 hu
  unfold Builtin.zeroCells at hu
  obtain ⟨q, _, rfl⟩ := Array.mem_map.1 hu
  have hq : q % z.cells.size < z.cells.size := Nat.mod_lt _ (by omega)
  rw [getElem!_pos z.cells _ hq]
  exact c3 _ (Array.mem_toList_iff.2 (Array.getElem_mem hq)))
 refine ⟨w.setRow b (spliceA cur (off * k) (Builtin.zeroCells z.cells (m + 1)).toList), by simp [Builtin.clear_, run_underlying g2, zeroValue, run_typeInfo q1, q3, hst], ?_⟩
 refine own_write (DR := DR) hi hes rfl hb (by simp) (fun j hj => setRow_other w b j _ hj) rfl rfl rfl (Nat.le_refl _) rfl (fun hk => ?_)
 refine ⟨rfl, o2, o3, by rw [List.length_take]; omega, fun q y hy => ?_, _, ety, setRow_heap w b cur _ ety _ o6, by rw [spliceA_size hfit]; exact o7, fun q j y y' v' hy hy' hv' => ?_⟩
 ·rw [List.getElem?_take] at hy
  split at hy
  ·exact o5 q y hy
  ·cases hy
 ·rw [List.getElem?_take] at hy
  split at hy
  ·rename_i hq
   have hj : j < k := by have := lt_of_getElem? hy'; have := (o5 q y hy).2; omega
   have hlt := mul_lt_of (k := k) hq hj
   rw [spliceA_get hfit, if_neg (by omega)] at hv'
   exact (o8 q j y y' v' hy hy' hv').mono hk
  ·cases hy
variable {DR : Prop}
theorem zip_range {α : Type} : ∀ (l : List (Nat × α)) (n m : Nat), l.map (·.1) = List.range' m n → l = ((l.map (·.2)).zipIdx m).map fun x => (x.2, x.1)
 | [], n, m, h => by simp
 | (i, a) :: r, n, m, h => by
  cases n with
  | zero => simp at h
  | succ n =>
   simp only [List.map_cons, List.range'_succ, List.cons.injEq] at h
   obtain ⟨rfl, h⟩ := h
   simp only [List.map_cons, List.zipIdx_cons, List.cons.injEq, true_and]
   exact zip_range r n (i + 1) h
theorem div_mul_add {i j k : Nat} (hj : j < k) : (i * k + j) / k = i := Nat.div_eq_of_lt_le (by omega) (by rw [Nat.add_mul]; omega)
theorem mod_mul_add {i j k : Nat} (hj : j < k) : (i * k + j) % k = j := by
 rw [Nat.add_comm, Nat.mul_comm, Nat.add_mul_mod_self_left, Nat.mod_eq_of_lt hj]
structure Laid (S : Nat → Nat → Prop) (w : World) (k : Nat) (xs : List V) (news : List Value) : Prop where
 len : news.length = xs.length * k
 one : ∀ u ∈ news, u.oneCell' = true
 rel : ∀ (i j : Nat) (x y : V) (u : Value), xs[i]? = some x → x.cells[j]? = some y → news[i * k + j]? = some u → RelV S w u y
def Solid (k : Nat) (xs : List V) : Prop := ∀ (i : Nat) (x : V), xs[i]? = some x → x.solid = true ∧ x.cells.length = k
theorem solid_cells {x y : V} (h : x.solid = true) (hy : y ∈ x.cells) : y.scalar = true := by
 cases x with
 | agg cs => simp only [V.solid, List.all_eq_true] at h; exact h y hy
 | tuple cs => simp [V.solid] at h
 | _ => simp [V.cells] at hy; subst hy; rfl
theorem solid_of_all {k : Nat} {xs : List V} (h : xs.all (fun d => d.solid && d.cells.length == k) = true) : Solid k xs := by
 intro i x hx
 have := List.all_eq_true.1 h x (List.mem_of_getElem? hx)
 rw [Bool.and_eq_true, beq_iff_eq] at this
 exact this
theorem Laid.mono {S S' : Nat → Nat → Prop} {w w' : World} {k : Nat} {xs : List V} {news : List Value} (hk : Keeps S w S' w') (h : Laid S w k xs news) : Laid S' w' k xs news :=
 ⟨h.len, h.one, fun i j x y u h1 h2 h3 => (h.rel i j x y u h1 h2 h3).mono hk⟩
theorem Laid.append {S : Nat → Nat → Prop} {w : World} {k : Nat} {xs ys : List V} {a b : List Value} (hs : Solid k ys) (hx : Solid k xs) (h : Laid S w k xs a) (g : Laid S w k ys b) : Laid S w k (xs ++ ys) (a ++ b) := by
 refine ⟨by simp [h.len, g.len, Nat.add_mul], fun u hu => ?_, fun i j x y u h1 h2 h3 => ?_⟩
 ·rcases List.mem_append.1 hu with hu | hu
  ·exact h.one u hu
  ·exact g.one u hu
 ·have hj := lt_of_getElem? h2
  by_cases hi : i < xs.length
  ·rw [List.getElem?_append_left hi] at h1
   have hjk : j < k := by have := (hx i x h1).2; omega
   have := mul_lt_of (k := k) hi hjk
   rw [List.getElem?_append_left (by rw [h.len]; exact this)] at h3
   exact h.rel i j x y u h1 h2 h3
  ·rw [List.getElem?_append_right (by omega)] at h1
   have hle : xs.length * k ≤ i * k := Nat.mul_le_mul_right _ (by omega)
   rw [List.getElem?_append_right (by rw [h.len]; omega), h.len] at h3
   have e : i * k + j - xs.length * k = (i - xs.length) * k + j := by rw [Nat.sub_mul]; omega
   rw [e] at h3
   exact g.rel _ j x y u h1 h2 h3
theorem Solid.append {k : Nat} {xs ys : List V} (h : Solid k xs) (g : Solid k ys) : Solid k (xs ++ ys) := by
 intro i x hx
 rw [List.getElem?_append] at hx
 split at hx
 ·exact h i x hx
 ·exact g _ x hx
theorem Solid.take_drop {k : Nat} {xs : List V} (h : Solid k xs) (off len : Nat) : Solid k ((xs.drop off).take len) := by
 intro i x hx
 rw [List.getElem?_take] at hx
 split at hx
 ·rw [List.getElem?_drop] at hx; exact h _ x hx
 ·cases hx
theorem Laid.of_values {S : Nat → Nat → Prop} {w : World} {k : Nat} (hk : 0 < k) {xs : List V} {vs : List Value} (hs : Solid k xs) (hl : vs.length = xs.length) (hr : ∀ (i : Nat) v x, vs[i]? = some v → xs[i]? = some x → RelV S w v x) :
  (∀ v ∈ vs, v.cells.size = k) ∧ Laid S w k xs (vs.flatMap fun v => v.cells.toList) := by
 have h1 : ∀ v ∈ vs, v.cells.size = k := by
  intro v hv
  obtain ⟨i, hi⟩ := List.getElem?_of_mem hv
  have hx := List.getElem?_eq_getElem (l := xs) (i := i) (by have := lt_of_getElem? hi; omega)
  obtain ⟨s1, s2⟩ := hs i _ hx
  rw [((hr i v _ hi hx).cells s1).1, s2]
 refine ⟨h1, ?_, fun u hu => ?_, fun i j x y u g1 g2 g3 => ?_⟩
 ·have : ∀ l : List Value, (∀ v ∈ l, v.cells.size = k) → (l.flatMap fun v => v.cells.toList).length = l.length * k := by
   intro l
   induction l with
   | nil => intro _; simp
   | cons v r ih =>
    intro hv
    have h0 := hv v List.mem_cons_self
    rw [List.flatMap_cons, List.length_append, ih (fun u hu => hv u (List.mem_cons_of_mem _ hu)), List.length_cons, Nat.add_mul]
    simp [h0]; omega
  rw [this vs h1, hl]
 ·obtain ⟨v, hv, huv⟩ := List.mem_flatMap.1 hu
  obtain ⟨i, hi⟩ := List.getElem?_of_mem hv
  have hx := List.getElem?_eq_getElem (l := xs) (i := i) (by have := lt_of_getElem? hi; omega)
  exact (hr i v _ hi hx).cells_one (hs i _ hx).1 u huv
 ·obtain ⟨s1, s2⟩ := hs i x g1
  have hj : j < k := by have := lt_of_getElem? g2; omega
  have hi := lt_of_getElem? g1
  rw [Great.flat_get hk vs h1, div_mul_add hj, mod_mul_add hj] at g3
  obtain ⟨v, hv, hu⟩ := Option.bind_eq_some_iff.1 g3
  exact ((hr i v x hv g1).cells s1).2 j u y hu g2
theorem rel_sl_of {S : Nat → Nat → Prop} {w : World} {k b cap : Nat} {xs : List V} {cur : Array Value} {e : TypeId} {fr : Nat × Nat} (fl : SFlag) (hfl : fl.isNil ≠ some true) (hs : Solid k xs) (hg : w.heap[b]? = some (.cells cur e fr))
  (hS : ∀ i, i < xs.length * k → S b i) (hc : xs.length ≤ cap) (hf : fl.isFull = true → cap = xs.length) (hm : cap ≤ maxLen) (hsz : xs.length * k ≤ cur.size)
  (hr : ∀ (i j : Nat) (x y : V) (u : Value), xs[i]? = some x → x.cells[j]? = some y → cur[i * k + j]? = some u → RelV S w u y) : RelV S w (.slice (some ⟨b, 0, none⟩) xs.length cap) (.sl fl xs) := by
 have hin : ∀ i j : Nat, i < xs.length → j < k → i * k + j < cur.size := fun i j hi hj => by have := mul_lt_of (k := k) hi hj; omega
 refine .sl fl b 0 cap k xs.length xs (fun q => cur.getD q undef) rfl hfl hf hc hm hs (fun i j hi hj => ⟨hS _ (by have := mul_lt_of (k := k) hi hj; omega), ?_⟩) (fun i j x c hx hy => ?_)
 ·have := hin i j hi hj
  rw [cell_of_row w b _ cur e fr hg, Nat.zero_add, Array.getElem?_eq_getElem this]
  simp [Array.getD, this]
 ·have hi := lt_of_getElem? hx
  have hj := lt_of_getElem? hy
  rw [(hs i x hx).2] at hj
  have := hin i j hi hj
  refine hr i j x c _ hx hy ?_
  rw [Array.getElem?_eq_getElem this]
  simp [Array.getD, this]
theorem buildSlice_sound {P : Program} {T : Nat → Option TI} (hT : ∀ t i, T t = some i → tiOf P t = some i) {S : Nat → Nat → Prop} {β : Blocks} {w : World} {h : List AObj} (hi : HInv S β w h) {t e n : Nat} {ti i : TI} (ht : T t = some ti)
  (hk : ti.kind = .slice e) (he : T e = some i) (h0 : 0 < i.size) (hn : n * i.size ≤ 16777216) (parts : Array (Nat × Value)) (hp : parts.toList.map (·.1) = List.range n) {es : List V} (hl : es.length = n)
  (hz : i.zero.cells.length = i.size)
  (hr : ∀ (j : Nat) p x, parts[j]? = some p → es[j]? = some x → RelV S w p.2 x) (hs : es.all (fun d => d.solid && d.cells.length == i.size) = true) :
  ∃ v w' S', (Instr.buildSlice t n parts).run P w = .ok v w' ∧ Ext DR S β w S' β w' ∧ HInv S' β w' h ∧ RelV S' w' v (.sl .nonfull es) := by
 obtain ⟨info, desc, z, g1, g2, g3, g4, g5, g6, g7, g8, _⟩ := tiOf_spec (hT _ _ ht)
 obtain ⟨info', desc', z', k1, k2, k3, k4, k5, k6, k7, k8, _⟩ := tiOf_spec (hT _ _ he)
 rw [hk] at g5
 have := tkOf_slice g5
 subst this
 subst hl
 have hs' := solid_of_all hs
 have hpl : parts.size = es.length := by have := congrArg List.length hp; simpa using this
 cases es with
 | nil =>
  have hp0 : parts = #[] := by simpa using hpl
  subst hp0
  obtain ⟨e1, e2⟩ := pure_alloc (DR := DR) hi (.cells #[] e)
  refine ⟨.slice (some ⟨w.heap.size, 0, none⟩) 0 0, w.alloc (.cells #[] e), _, ?_, e1, e2, .slemp _ _ _ (by decide) (fun _ => rfl) (Nat.zero_le _)⟩
  simp [Instr.buildSlice, run_underlying g2, run_sizeOf k1, newRow, Instr.fill, Array.range_zero']
 | cons x0 er =>
  let es := x0 :: er
  have hlen : (parts.toList.map (·.2)).length = es.length := by simp [hpl, es]
  obtain ⟨l1, l2⟩ := Laid.of_values (S := S) (w := w) h0 (xs := es) (vs := parts.toList.map (·.2)) hs' hlen (fun j v x hv hx => by
   simp only [List.getElem?_map] at hv
   obtain ⟨p, hp', rfl⟩ := Option.map_eq_some_iff.1 hv
   exact hr j p x (by simpa using hp') hx)
  have hfill := Great.fill_whole h0 (parts.toList.map (·.2)) ((Array.range (es.length * i.size)).map (z'.cells[· % z'.cells.size]!)) l1 (by simp [hpl, es])
  rw [← zip_range parts.toList es.length 0 (by rw [hp, List.range_eq_range'])] at hfill
  have hpos : 0 < es.length * i.size := Nat.mul_pos (by simp [es]) h0
  have hrun := run_buildSlice (P := P) w t e es.length parts _ info' z' g2 k1 k3 (by rw [k7]; show ¬ es.length * i.size > 16777216; exact Nat.not_lt.2 hn) (by rw [k7]; omega) (by rw [k7]; exact hfill)
  obtain ⟨e1, e2⟩ := pure_alloc (DR := DR) hi (.cells ((parts.toList.map (·.2)).flatMap fun v => v.cells.toList).toArray e)
  have l3 := l2.mono e1.keeps
  refine ⟨_, _, _, hrun, e1, e2, rel_sl_of .nonfull (by decide) hs' (heap_alloc_new w _) (fun _ _ => .inr rfl) (Nat.le_refl _) (fun _ => rfl) ?_ (by simp [l2.len]) (fun i' j x y u h1 h2 h3 => l3.rel i' j x y u h1 h2 (by simpa using h3))⟩
  have : es.length ≤ 16777216 := Nat.le_trans (Nat.le_mul_of_pos_right _ h0) hn
  unfold maxLen
  omega
theorem buildSliceO_sound {P : Program} {T : Nat → Option TI} (hT : ∀ t i, T t = some i → tiOf P t = some i) {S : Nat → Nat → Prop} {β : Blocks} {w : World} {h : List AObj} (hi : HInv S β w h) {t e n : Nat} {ti i : TI} (ht : T t = some ti)
  (hk : ti.kind = .slice e) (he : T e = some i) (h0 : 0 < i.size) (hn : n * i.size ≤ 16777216) (hn0 : 0 < n) (parts : Array (Nat × Value)) (hp : parts.toList.map (·.1) = List.range n) {es : List V} (hl : es.length = n)
  (hz : i.zero.cells.length = i.size)
  (hr : ∀ (j : Nat) p x, parts[j]? = some p → es[j]? = some x → RelV S w p.2 x) (hs : es.all (fun d => d.solid && d.cells.length == i.size) = true) :
  ∃ v w' β', (Instr.buildSlice t n parts).run P w = .ok v w' ∧ Ext DR S β w S β' w' ∧ HInv S β' w' (h ++ [.row i.size es]) ∧ RelD S β' w' v (.osl h.length 0 n false) := by
 obtain ⟨info, desc, z, g1, g2, g3, g4, g5, g6, g7, g8, _⟩ := tiOf_spec (hT _ _ ht)
 obtain ⟨info', desc', z', k1, k2, k3, k4, k5, k6, k7, k8, _⟩ := tiOf_spec (hT _ _ he)
 rw [hk] at g5
 have := tkOf_slice g5
 subst this
 subst hl
 have hs' := solid_of_all hs
 have hpl : parts.size = es.length := by have := congrArg List.length hp; simpa using this
 have hlen : (parts.toList.map (·.2)).length = es.length := by simp [hpl]
 obtain ⟨l1, l2⟩ := Laid.of_values (S := S) (w := w) h0 (xs := es) (vs := parts.toList.map (·.2)) hs' hlen (fun j v x hv hx => by
  simp only [List.getElem?_map] at hv
  obtain ⟨p, hp', rfl⟩ := Option.map_eq_some_iff.1 hv
  exact hr j p x (by simpa using hp') hx)
 have hfill := Great.fill_whole h0 (parts.toList.map (·.2)) ((Array.range (es.length * i.size)).map (z'.cells[· % z'.cells.size]!)) l1 (by simp [hpl])
 rw [← zip_range parts.toList es.length 0 (by rw [hp, List.range_eq_range'])] at hfill
 have hpos : 0 < es.length * i.size := Nat.mul_pos hn0 h0
 have hrun := run_buildSlice (P := P) w t e es.length parts _ info' z' g2 k1 k3 (by rw [k7]; show ¬ es.length * i.size > 16777216; exact Nat.not_lt.2 hn) (by rw [k7]; omega) (by rw [k7]; exact hfill)
 have hm : es.length ≤ 16777216 := Nat.le_trans (Nat.le_mul_of_pos_right _ h0) hn
 have hkp := keeps_alloc hi (.cells ((parts.toList.map (·.2)).flatMap fun v => v.cells.toList).toArray e) S (fun _ _ h => h)
 have l3 := l2.mono hkp
 obtain ⟨e1, e2⟩ := own_alloc (DR := DR) hi ((parts.toList.map (·.2)).flatMap fun v => v.cells.toList).toArray e es.length i.size (.row i.size es) rfl
  ⟨rfl, h0, by unfold maxLen; omega, Nat.le_refl _, hs', _, e, heap_alloc_new w _, by simp [l2.len], fun i' j x y u h1 h2 h3 => l3.rel i' j x y u h1 h2 (by simpa using h3)⟩
 exact ⟨_, _, _, hrun, e1, e2, .osl _ 0 es.length w.heap.size es.length i.size 0 es.length false (by rw [← hi.len]; simp) (by omega) (by simp) (by simp)⟩
theorem elemsOf_sound {S : Nat → Nat → Prop} {β : Blocks} {w : World} {h : List AObj} (hi : HInv S β w h) {k : Nat} {x : D} {xs : List V} (he : elemsOf k h x = some xs) {v : Value} (hv : RelD S β w v x) :
  Solid k xs ∧ ∃ base c, v = .slice base xs.length c ∧ xs.length ≤ c ∧ c ≤ maxLen ∧ (xs ≠ [] → ∃ a news, base = some a ∧ Laid S w k xs news ∧ ∀ (j : Nat) u, news[j]? = some u → w.cell? (a.add j) = some u) ∧
   (∀ fl es, x = .v (.sl fl es) → fl.isFull = true → c = xs.length ∧ (base = none → c = 0)) := by
 unfold elemsOf at he
 split at he
 ·rename_i fl es
  split at he
  ·rename_i ha
   cases he
   have hv' := hv.of_v
   have hs : Solid k xs := by
    cases hv' with
    | slnil => intro i x hx; simp at hx
    | slemp => intro i x hx; simp at hx
    | sl fl b off cap k' n es vals hn h hf hc hm hk hs' hr =>
     cases xs with
     | nil => intro i x hx; simp at hx
     | cons x0 r =>
      have h0 := (hk 0 x0 rfl).2
      simp only [headOk, beq_iff_eq] at ha
      rw [ha] at h0
      subst h0
      exact hk
   refine ⟨hs, ?_⟩
   cases hv' with
   | slnil fl h => exact ⟨none, 0, rfl, Nat.le_refl _, Nat.zero_le _, fun h => absurd rfl h, fun _ _ he _ => ⟨rfl, fun _ => rfl⟩⟩
   | slemp fl a cap h hf hm => exact ⟨some a, cap, rfl, Nat.zero_le _, hm, fun h => absurd rfl h, fun fl' es' he hfull => by cases he; exact ⟨hf hfull, fun h => by cases h⟩⟩
   | sl fl b off cap k' n es vals hn h hf hc hm hk hs' hr =>
    subst hn
    refine ⟨some ⟨b, off, none⟩, cap, rfl, hc, hm, fun hne => ?_, fun fl' es' he hfull => by cases he; exact ⟨hf hfull, fun h => by cases h⟩⟩
    have hkk : k' = k := by
     cases xs with
     | nil => exact absurd rfl hne
     | cons x0 r => rw [← (hk 0 x0 rfl).2, (hs 0 x0 rfl).2]
    subst hkk
    have hq : ∀ q, q < xs.length * k' → 0 < k' ∧ q / k' < xs.length ∧ q % k' < k' ∧ q / k' * k' + q % k' = q := by
     intro q hq
     have hk0 : 0 < k' := by rcases Nat.eq_zero_or_pos k' with h0 | h0; (subst h0; simp at hq); exact h0
     exact ⟨hk0, (Nat.div_lt_iff_lt_mul hk0).2 hq, Nat.mod_lt _ hk0, by rw [Nat.mul_comm]; exact Nat.div_add_mod q k'⟩
    refine ⟨⟨b, off, none⟩, (List.range (xs.length * k')).map vals, rfl, ⟨by simp, fun u hu => ?_, fun i j x y u h1 h2 h3 => ?_⟩, fun j u hu => ?_⟩
    ·obtain ⟨q, hqm, rfl⟩ := List.mem_map.1 hu
     obtain ⟨hk0, q1, q2, q3⟩ := hq q (List.mem_range.1 hqm)
     have hx := List.getElem?_eq_getElem (l := xs) q1
     have hy := List.getElem?_eq_getElem (l := (xs[q / k']).cells) (i := q % k') (by rw [(hs _ _ hx).2]; exact q2)
     have := hr _ _ _ _ hx hy
     rw [q3] at this
     refine this.oneCell ?_
     exact solid_cells (hs _ _ hx).1 (List.mem_of_getElem? hy)
    ·have hi' := lt_of_getElem? h1
     have hj := lt_of_getElem? h2
     rw [(hs i x h1).2] at hj
     have := mul_lt_of (k := k') hi' hj
     rw [List.getElem?_map, List.getElem?_range this] at h3
     cases h3
     exact hr i j x y h1 h2
    ·rw [List.getElem?_map] at hu
     obtain ⟨q, hq', rfl⟩ := Option.map_eq_some_iff.1 hu
     have hlt := lt_of_getElem? hq'
     simp only [List.length_range] at hlt
     rw [List.getElem?_range hlt] at hq'
     cases hq'
     obtain ⟨hk0, q1, q2, q3⟩ := hq j hlt
     have := (hs' (j / k') (j % k') q1 q2).2
     rw [q3] at this
     rw [Addr.add_lit]
     exact this
  ·cases he
 ·rename_i r off len full
  split at he
  ·rename_i k' es hes
   split at he
   ·rename_i hc
    cases he
    obtain ⟨rfl, hle⟩ := hc
    cases hv with
    | osl r off len b c k' p cap full hb hlen hp hcap =>
     obtain ⟨o1, o2, o3, o4, o5, cur, e, o6, o7, o8⟩ := hi.obj r _ b c _ hes hb
     subst o1
     have hxl : ((es.drop off).take len).length = len := by simp; omega
     have hsol : Solid k ((es.drop off).take len) := Solid.take_drop o5 off len
     refine ⟨hsol, some ⟨b, p, none⟩, cap, by rw [hxl], ?_, ?_, fun hne => ?_, fun _ _ h => by cases h⟩
     ·rw [hxl, hcap]; split <;> omega
     ·rw [hcap]; split <;> omega
     ·subst hp
      have hin : len * k + off * k ≤ cur.size := by rw [o7, ← Nat.add_mul]; exact Nat.mul_le_mul_right _ (by omega)
      refine ⟨_, (cur.toList.drop (off * k)).take (len * k), rfl, ⟨by rw [hxl]; simp; omega, fun u hu => ?_, fun i j x y u h1 h2 h3 => ?_⟩, fun j u hu => ?_⟩
      ·obtain ⟨q, hq⟩ := List.getElem?_of_mem hu
       have hql := lt_of_getElem? hq
       simp only [List.length_take, List.length_drop, Array.length_toList] at hql
       have hql' : q < len * k := by omega
       rw [List.getElem?_take, if_pos hql', List.getElem?_drop] at hq
       have q1 : q / k < len := (Nat.div_lt_iff_lt_mul o2).2 hql'
       have hx := List.getElem?_eq_getElem (l := es) (i := off + q / k) (by omega)
       have hy := List.getElem?_eq_getElem (l := (es[off + q / k]).cells) (i := q % k) (by rw [(o5 _ _ hx).2]; exact Nat.mod_lt _ o2)
       have e1 : (off + q / k) * k + q % k = off * k + q := by
        have := Nat.div_add_mod q k
        rw [Nat.add_mul, Nat.mul_comm (q / k)]; omega
       have := o8 _ _ _ _ u hx hy (by rw [e1]; simpa using hq)
       refine this.oneCell ?_
       exact solid_cells (o5 _ _ hx).1 (List.mem_of_getElem? hy)
      ·have hj := lt_of_getElem? h2
       rw [(hsol i x h1).2] at hj
       have hi' := lt_of_getElem? h1
       rw [hxl] at hi'
       have := mul_lt_of (k := k) hi' hj
       rw [List.getElem?_take, if_pos hi', List.getElem?_drop] at h1
       rw [List.getElem?_take, if_pos this, List.getElem?_drop] at h3
       refine o8 (off + i) j x y u h1 h2 ?_
       rw [Nat.add_mul, Nat.add_assoc]
       simpa using h3
      ·have hql := lt_of_getElem? hu
       simp only [List.length_take, List.length_drop, Array.length_toList] at hql
       rw [List.getElem?_take, if_pos (by omega), List.getElem?_drop] at hu
       rw [Addr.add_lit, cell_own o6]
       simpa using hu
   ·cases he
  ·rename_i cs hes
   split at he
   ·rename_i hc
    obtain ⟨rfl, hle⟩ := hc
    split at he
    ·rename_i vs hvs
     split at he
     ·rename_i hall
      cases he
      have hcs := pures_spec hvs
      have hvl : xs.length = len := by
       have := congrArg List.length hcs
       rw [List.length_map, List.length_take, List.length_drop] at this
       omega
      have hone : ∀ (i : Nat) (x : V), xs[i]? = some x → x.solid = true ∧ x.cells = [x] := fun i x hx => by
       have := List.all_eq_true.1 hall x (List.mem_of_getElem? hx)
       cases x <;> first | exact ⟨rfl, rfl⟩ | cases this
      cases hv with
      | osl r off len b c k' p cap full hb hlen hp hcap =>
       obtain ⟨o1, o3, o4, cur, e, o6, o7, o8⟩ := hi.obj r _ b c _ hes hb
       subst o1
       rw [Nat.mul_one] at hp
       subst hp
       have hrel : ∀ (j : Nat) (x : V) (u : Value), xs[j]? = some x → cur[p + j]? = some u → RelV S w u x := fun j x u hx hu => by
        have hj := lt_of_getElem? hx
        have hd : (xs.map D.v)[j]? = some (.v x) := by rw [List.getElem?_map, hx]; rfl
        rw [← hcs, List.getElem?_take, if_pos (by omega), List.getElem?_drop] at hd
        exact (o8 (p + j) u _ hu hd).of_v
       refine ⟨fun i x hx => ⟨(hone i x hx).1, by rw [(hone i x hx).2]; rfl⟩, some ⟨b, p, none⟩, cap, by rw [hvl], ?_, ?_, fun hne => ?_, fun _ _ h => by cases h⟩
       ·rw [hvl, hcap]; split <;> omega
       ·rw [hcap]; split <;> omega
       ·refine ⟨_, (cur.toList.drop p).take len, rfl, ⟨by simp; omega, fun u hu => ?_, fun i j x y u h1 h2 h3 => ?_⟩, fun j u hu => ?_⟩
        ·obtain ⟨q, hq⟩ := List.getElem?_of_mem hu
         have hql := lt_of_getElem? hq
         simp only [List.length_take, List.length_drop, Array.length_toList] at hql
         rw [List.getElem?_take, if_pos (by omega), List.getElem?_drop] at hq
         have hx := List.getElem?_eq_getElem (l := xs) (i := q) (by omega)
         have := hrel q _ u hx (by simpa using hq)
         refine this.oneCell ?_
         exact List.all_eq_true.1 hall _ (List.mem_of_getElem? hx)
        ·rw [(hone i x h1).2] at h2
         cases j with
         | zero =>
          cases h2
          have hi' := lt_of_getElem? h1
          rw [Nat.mul_one, Nat.add_zero, List.getElem?_take, if_pos (by omega), List.getElem?_drop] at h3
          exact hrel i _ u h1 (by simpa using h3)
         | succ j => simp at h2
        ·have hql := lt_of_getElem? hu
         simp only [List.length_take, List.length_drop, Array.length_toList] at hql
         rw [List.getElem?_take, if_pos (by omega), List.getElem?_drop] at hu
         rw [Addr.add_lit, cell_own o6]
         simpa using hu
     ·cases he
    ·cases he
   ·cases he
  ·cases he
 ·cases he
theorem copy_sound {P : Program} {T : Nat → Option TI} (hT : ∀ t i, T t = some i → tiOf P t = some i) {t t' : Nat} {ty : TypeId} {S : Nat → Nat → Prop} {β : Blocks} {w : World} {h h' : List AObj} (hi : HInv S β w h) {d s y : D} (hd : copyD T t h d s = some (y, h'))
  {v u : Value} (hv : RelD S β w v d) (hu : RelD S β w u s) : ∃ z w', (Builtin.copy_ #[t, t'] ty #[v, u]).run P w = .ok z w' ∧ Ext DR S β w S β w' ∧ HInv S β w' h' ∧ RelD S β w' z y := by
 unfold copyD at hd
 split at hd
 case h_2 => cases hd
 rename_i r off len full
 split at hd
 case h_2 => cases hd
 rename_i ti hti
 split at hd
 case h_2 => cases hd
 rename_i e k es hkind hes
 split at hd
 case h_2 => cases hd
 rename_i i he
 split at hd
 case isFalse => cases hd
 rename_i hc
 obtain ⟨hk1, rfl, hlen⟩ := hc
 obtain ⟨xs, hxs, hy⟩ := Option.map_eq_some_iff.1 hd
 obtain ⟨rfl, rfl⟩ := Prod.mk.inj hy
 obtain ⟨hsol, base, c, rfl, hc1, hc2, hbase, _⟩ := elemsOf_sound hi hxs hu
 cases hv with
 | osl _ _ _ b c' k0 p cap _ hb hlc hp hcap =>
 subst hp
 obtain ⟨o1, o2, o3, o4, o5, cur, ety, o6, o7, o8⟩ := hi.obj r _ b c' k0 hes hb
 subst o1
 obtain ⟨_, desc, _, _, g2, _, _, g5, _, _, _, _⟩ := tiOf_spec (hT t ti hti)
 obtain ⟨info, _, z, q1, _, q3, q4, q5, _, q6, _, _⟩ := tiOf_spec (hT e i he)
 have hdesc : desc = .slice e := by
  rw [hkind] at g5
  cases desc <;> simp [tkOf] at g5 <;> first | (rw [g5]; done) | skip
  all_goals first | (split at g5 <;> cases g5; done) | skip
 subst hdesc
 have hsz : (P.info? e).map (·.size) = some 1 := by rw [q1, Option.map_some, q6, hk1]
 by_cases hn : min xs.length len = 0
 ·have e1 : xs.take len = [] := by
   cases xs with
   | nil => simp
   | cons _ _ =>
    have : len = 0 := by simp at hn; omega
    rw [this]; rfl
  have e2 : h.set r (.row 1 (es.take off ++ (xs.take len ++ es.drop (off + min xs.length len)))) = h := by
   rw [e1, hn, Nat.add_zero, List.nil_append, List.take_append_drop]
   refine List.ext_getElem? fun j => ?_
   rw [List.getElem?_set]
   split
   ·rename_i g; subst g
    split
    ·exact hes.symm
    ·rename_i g; rw [List.getElem?_eq_none (by omega)] at hes; cases hes
   ·rfl
  rw [e2, hn]
  exact ⟨_, w, run_copy_none w t t' ty e _ _ len cap xs.length c g2 hsz hn, Ext.refl _ _ _, hi, .v _ _ (.int _ _)⟩
 ·have hx : xs ≠ [] := fun g => hn (by rw [g]; simp)
  obtain ⟨a, news, rfl, hl, hcell⟩ := hbase hx
  have hnl : news.length = xs.length := by simpa using hl.len
  have h1 : (news.take len).length = Nat.min xs.length len := by
   rw [List.length_take, hnl]
   exact Nat.min_comm _ _
  have hcur : es.length ≤ cur.size := by rw [o7, Nat.mul_one]; exact o4
  have hfit : off + (news.take len).length ≤ cur.size := by
   rw [List.length_take]
   have := Nat.min_le_left len news.length
   omega
  have hrun := run_copy_row (P := P) w t t' ty e b off len cap a xs.length c cur ety (news.take len) g2 hsz o6 h1
   (fun j u hu => hcell j u (by
    rw [List.getElem?_take] at hu
    split at hu
    ·exact hu
    ·cases hu)) hfit (fun u hu => hl.one u (List.mem_of_mem_take hu))
  have hrun' : (Builtin.copy_ #[t, t'] ty #[.slice (some ⟨b, off * 1, none⟩) len cap, .slice (some a) xs.length c]).run P w = .ok (goInt (news.take len).length) (w.setRow b (spliceA cur off (news.take len))) := by
   rw [Nat.mul_one]; exact hrun
  have hmin : (news.take len).length = min xs.length len := h1
  rw [hmin] at hrun'
  have hpos : 0 < min xs.length len := Nat.pos_of_ne_zero hn
  have hel : (es.take off ++ (xs.take len ++ es.drop (off + min xs.length len))).length = es.length := by
   simp only [List.length_append, List.length_take, List.length_drop]
   omega
  have hget : ∀ (q : Nat), (es.take off ++ (xs.take len ++ es.drop (off + min xs.length len)))[q]? = if off ≤ q ∧ q < off + min xs.length len then xs[q - off]? else es[q]? := by
   intro q
   have hto : (es.take off).length = off := by rw [List.length_take]; omega
   by_cases g1 : q < off
   ·rw [if_neg (by omega), List.getElem?_append_left (by omega), List.getElem?_take, if_pos g1]
   ·rw [List.getElem?_append_right (by omega), hto]
    by_cases g2 : q < off + min xs.length len
    ·rw [if_pos ⟨by omega, g2⟩, List.getElem?_append_left (by rw [List.length_take]; omega), List.getElem?_take, if_pos (by omega)]
    ·rw [if_neg (by omega), List.getElem?_append_right (by rw [List.length_take]; omega), List.getElem?_drop, List.length_take]
     congr 1
     omega
  obtain ⟨e1, e2⟩ := own_write (DR := DR) (w' := w.setRow b (spliceA cur off (news.take len))) (o' := .row 1 (es.take off ++ (xs.take len ++ es.drop (off + min xs.length len)))) hi hes rfl hb (by simp) (fun j hj => setRow_other w b j _ hj) rfl rfl rfl (Nat.le_refl _) rfl (fun hk => by
   refine ⟨rfl, o2, o3, by rw [hel]; exact o4, fun q y hy => ?_, _, ety, setRow_heap w b cur _ ety _ o6, by rw [spliceA_size hfit]; exact o7, fun q j y y' v' hy hy' hv' => ?_⟩
   ·rw [hget] at hy
    split at hy
    ·exact hsol _ y hy
    ·exact o5 q y hy
   ·have hj : j = 0 := by
     have hj := lt_of_getElem? hy'
     have : y.cells.length = 1 := by
      rw [hget] at hy
      split at hy
      ·exact (hsol _ y hy).2
      ·exact (o5 q y hy).2
     omega
    subst hj
    rw [Nat.mul_one, Nat.add_zero] at hv'
    rw [spliceA_get hfit] at hv'
    rw [hget] at hy
    rw [hmin] at hv'
    split at hy
    ·rename_i hq
     rw [if_pos hq, List.getElem?_take, if_pos (by omega)] at hv'
     exact (hl.rel (q - off) 0 y y' v' hy hy' (by simpa using hv')).mono hk
    ·rename_i hq
     rw [if_neg hq] at hv'
     exact (o8 q 0 y y' v' hy hy' (by simpa using hv')).mono hk)
  exact ⟨_, _, hrun', e1, e2, .v _ _ (.int _ _)⟩
end Go.Abs
