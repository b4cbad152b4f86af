import Derived.Test.YtkmmaelmdioleaaGreatDoorAbsJ
namespace Go.Abs
set_option linter.unusedVariables false
set_option linter.unusedSimpArgs false
set_option linter.unnecessarySimpa false
variable {DR : Prop}
theorem allM_spec {α β : Type} {f : α → Option β} : ∀ {l : List α} {ys : List β}, allM f l = some ys → ys.length = l.length ∧ ∀ (i : Nat) (x : α) (y : β), l[i]? = some x → ys[i]? = some y → f x = some y
 | [], ys, h => by simp [allM] at h; subst h; simp
 | a :: r, ys, h => by
  simp only [allM] at h
  split at h
  ·rename_i z zs hz hzs
   cases h
   obtain ⟨h1, h2⟩ := allM_spec hzs
   refine ⟨by simp [h1], fun i x y hx hy => ?_⟩
   cases i with
   | zero => simp at hx hy; subst hx; subst hy; exact hz
   | succ i => simp at hx hy; exact h2 i x y hx hy
  ·cases h
theorem RelV.plainS {S : Nat → Nat → Prop} {w : World} {v : Value} {x : V} (h : RelV S w v x) : RelV S w v (plainS x) := by
 cases h with
 | slnil fl h => exact .slnil _ (by decide)
 | slemp fl a cap h hf hm => exact .slemp _ a cap (by decide) (fun h => by cases h) hm
 | sl fl b off cap k n es vals hn h hf hc hm hk hs hr => exact .sl _ b off cap k n es vals hn (by decide) (fun h => by cases h) hc hm hk hs hr
 | bool b => exact .bool b
 | int k n => exact .int k n
 | str s => exact .str s
 | nilptr => exact .nilptr
 | nilmap => exact .nilmap
 | nilfunc => exact .nilfunc
 | nilif => exact .nilif
 | fn f => exact .fn f
 | clo f captured caps q hl hp hc hs hr => exact .clo f captured caps q hl hp hc hs hr
 | agg vs cs hl hr => exact .agg vs cs hl hr
 | tuple vs cs hl hr => exact .tuple vs cs hl hr
 | ptr b off cells vals hs hr => exact .ptr b off cells vals hs hr
 | map b es ks vs hs hm hb hk hv hrk hrv => exact .map b es ks vs hs hm hb hk hv hrk hrv
theorem RelV.plainV {S : Nat → Nat → Prop} {w : World} {v : Value} {x : V} (h : RelV S w v x) : RelV S w v (plainV x) := by
 cases x with
 | agg cs =>
  cases h with
  | agg vs _ hl hr =>
  refine .agg vs _ (by simpa using hl) (fun i v x hv hx => ?_)
  simp only [List.getElem?_map] at hx
  obtain ⟨y, hy, rfl⟩ := Option.map_eq_some_iff.1 hx
  exact (hr i v y hv hy).plainS
 | sl fl es => exact h.plainS
 | _ => exact h
theorem plainS_cells (x : V) (h : x.scalar = true) : (Abs.plainS x).cells = [Abs.plainS x] ∧ (Abs.plainS x).scalar = true := by cases x <;> first | exact ⟨rfl, rfl⟩ | cases h
theorem plainV_cells {x : V} (h : x.solid = true) : (Abs.plainV x).cells = x.cells.map Abs.plainS ∧ (Abs.plainV x).solid = true := by
 cases x with
 | agg cs =>
  refine ⟨rfl, ?_⟩
  show (cs.map Abs.plainS).all V.scalar = true
  simp only [V.solid, List.all_eq_true] at h ⊢
  intro y hy
  obtain ⟨z, hz, rfl⟩ := List.mem_map.1 hy
  exact (plainS_cells z (h z hz)).2
 | tuple cs => cases h
 | _ => exact ⟨rfl, rfl⟩
theorem RelV.mapPlain {S : Nat → Nat → Prop} {w : World} {v : Value} {fl : SFlag} {es : List V} (h : RelV S w v (.sl fl es)) : RelV S w v (.sl fl (es.map Abs.plainV)) := by
 cases h with
 | slnil fl h => exact .slnil fl h
 | slemp fl a cap h hf hm => exact .slemp fl a cap h hf hm
 | sl fl b off cap k n es vals hn h hf hc hm hk hs hr =>
  refine .sl fl b off cap k n _ vals (by simpa using hn) h hf hc hm (fun i x hx => ?_) hs (fun i j x c hx hc' => ?_)
  ·rw [List.getElem?_map] at hx
   obtain ⟨y, hy, rfl⟩ := Option.map_eq_some_iff.1 hx
   obtain ⟨h1, h2⟩ := hk i y hy
   obtain ⟨h3, h4⟩ := plainV_cells h1
   exact ⟨h4, by rw [h3]; simpa using h2⟩
  ·rw [List.getElem?_map] at hx
   obtain ⟨y, hy, rfl⟩ := Option.map_eq_some_iff.1 hx
   rw [(plainV_cells (hk i y hy).1).1, List.getElem?_map] at hc'
   obtain ⟨z, hz, rfl⟩ := Option.map_eq_some_iff.1 hc'
   exact (hr i j y z hy hz).plainS
theorem RelV.plainT {S : Nat → Nat → Prop} {w : World} {v : Value} {x : V} (h : RelV S w v x) : RelV S w v (plainT x) := by
 cases x with
 | tuple cs =>
  cases h with
  | tuple vs _ hl hr =>
  refine .tuple vs _ (by simpa using hl) (fun i v x hv hx => ?_)
  simp only [List.getElem?_map] at hx
  obtain ⟨y, hy, rfl⟩ := Option.map_eq_some_iff.1 hx
  exact (hr i v y hv hy).plainV
 | _ => exact h.plainV
def withOwn (S : Nat → Nat → Prop) (β : Blocks) (h : List AObj) : Nat → Nat → Prop :=
 fun b i => S b i ∨ ∃ (r : Nat) (o : AObj) (c k : Nat), h[r]? = some o ∧ o.live = true ∧ β[r]? = some (b, c, k)
theorem keeps_own (S : Nat → Nat → Prop) (β : Blocks) (h : List AObj) (w : World) : Keeps S w (withOwn S β h) w := fun _ _ hs => ⟨.inl hs, rfl⟩
theorem chunk_spec (k : Nat) : ∀ (n : Nat) (l : List V), l.length = n * k → (chunk k n l).length = n ∧ ∀ (i : Nat) (x : V), (chunk k n l)[i]? = some x → x = .agg ((l.drop (i * k)).take k)
 | 0, l, _ => ⟨rfl, fun i x h => by simp [chunk] at h⟩
 | n + 1, l, hl => by
  rw [Nat.add_mul, Nat.one_mul] at hl
  obtain ⟨h1, h2⟩ := chunk_spec k n (l.drop k) (by rw [List.length_drop]; omega)
  refine ⟨by show (chunk k n (l.drop k)).length + 1 = n + 1; rw [h1], fun i x h => ?_⟩
  cases i with
  | zero =>
   have h : some (V.agg (l.take k)) = some x := h
   rw [← Option.some.inj h, Nat.zero_mul, List.drop_zero]
  | succ i =>
   have h : (chunk k n (l.drop k))[i]? = some x := h
   rw [h2 i x h, List.drop_drop, Nat.add_mul, Nat.one_mul, Nat.add_comm k]
theorem frz_sound {S : Nat → Nat → Prop} {β : Blocks} {w : World} {h : List AObj} (hi : HInv S β w h) : ∀ (n : Nat) (d : D) (x : V) (v : Value), frz h n d = some x → RelD S β w v d → RelV (withOwn S β h) w v x := by
 intro n
 induction n with
 | zero => intro d x v h; simp [frz] at h
 | succ n ih =>
  intro d x v hx hv
  have list : ∀ (ds : List D) (xs : List V) (vs : Array Value), vs.size = ds.length → (∀ (i : Nat) v d, vs[i]? = some v → ds[i]? = some d → RelD S β w v d) → allM (frz h n) ds = some xs →
    vs.size = xs.length ∧ ∀ (i : Nat) v x, vs[i]? = some v → xs[i]? = some x → RelV (withOwn S β h) w v x := by
   intro ds xs vs hl hr ha
   obtain ⟨a1, a2⟩ := allM_spec ha
   refine ⟨by omega, fun i v x hv hx => ?_⟩
   have hlt := lt_of_getElem? hx
   have hd := List.getElem?_eq_getElem (l := ds) (i := i) (by omega)
   exact ih _ _ _ (a2 i _ x hd hx) (hr i v _ hv hd)
  cases d with
  | v y =>
   simp only [frz, Option.some.injEq] at hx
   subst hx
   exact (hv.of_v.mono (keeps_own S β h w)).plainT
  | agg cs =>
   simp only [frz] at hx
   obtain ⟨xs, hxs, rfl⟩ := Option.map_eq_some_iff.1 hx
   cases hv with
   | agg vs _ hl hr =>
   obtain ⟨l1, l2⟩ := list cs xs vs hl hr hxs
   exact .agg vs xs l1 l2
  | tuple cs =>
   simp only [frz] at hx
   obtain ⟨xs, hxs, rfl⟩ := Option.map_eq_some_iff.1 hx
   cases hv with
   | tuple vs _ hl hr =>
   obtain ⟨l1, l2⟩ := list cs xs vs hl hr hxs
   exact .tuple vs xs l1 l2
  | osl r off len full =>
   simp only [frz] at hx
   cases hv with
   | osl _ _ _ b c k p cap _ hb hlen hp hcap =>
   subst hp
   have hlc : len ≤ cap ∧ cap ≤ c := by rw [hcap]; split <;> omega
   split at hx
   ·rename_i k' es hes
    split at hx
    ·rename_i hle
     cases hx
     obtain ⟨rfl, o2, o3, o4, o5, cur, e, o6, o7, o8⟩ := hi.obj r _ b c k hes hb
     have hxl : ((es.drop off).take len).length = len := by simp; omega
     have hsol : Solid k' ((es.drop off).take len) := Solid.take_drop o5 off len
     have hin : off * k' + len * k' ≤ cur.size := by rw [o7, ← Nat.add_mul]; exact Nat.mul_le_mul_right _ (by omega)
     refine .sl _ b (off * k') cap k' len _ (fun q => cur.getD (off * k' + q) undef) hxl.symm (by decide) (fun h => by cases h) hlc.1 (by omega) hsol (fun i j hi' hj => ?_) (fun i j x c' hx' hy => ?_)
     ·have := mul_lt_of (k := k') hi' hj
      refine ⟨.inr ⟨r, _, c, k', hes, rfl, hb⟩, ?_⟩
      rw [cell_own o6, Array.getElem?_eq_getElem (by omega)]
      simp [Array.getD, show off * k' + (i * k' + j) < cur.size by omega]
     ·have hj := lt_of_getElem? hy
      rw [(hsol i x hx').2] at hj
      have hi' := lt_of_getElem? hx'
      rw [hxl] at hi'
      have := mul_lt_of (k := k') hi' hj
      rw [List.getElem?_take, if_pos hi', List.getElem?_drop] at hx'
      refine RelV.mono (keeps_own S β h w) (o8 (off + i) j x c' _ hx' hy ?_)
      rw [Nat.add_mul, Nat.add_assoc, Array.getElem?_eq_getElem (by omega)]
      simp [Array.getD, show off * k' + (i * k' + j) < cur.size by omega]
    ·cases hx
   ·rename_i cs hcs
    split at hx
    ·rename_i hle
     split at hx
     ·rename_i xs hxs
      split at hx
      ·rename_i hsc
       cases hx
       obtain ⟨rfl, o2, o3, cur, e, o4, o5, o6⟩ := hi.obj r _ b c k hcs hb
       obtain ⟨a1, a2⟩ := allM_spec hxs
       have hxl : xs.length = len := by rw [a1]; simp; omega
       have h1 : ∀ (i : Nat) (x : V), xs[i]? = some x → x.solid = true ∧ x.cells.length = 1 := by
        intro i x hx
        have := List.all_eq_true.1 hsc x (List.mem_of_getElem? hx)
        cases x <;> first | exact ⟨rfl, rfl⟩ | cases this
       refine .sl _ b (off * 1) cap 1 len xs (fun q => cur.getD (off + q) undef) hxl.symm (by decide) (fun h => by cases h) hlc.1 (by omega) h1 (fun i j hi' hj => ?_) (fun i j x c' hx' hy => ?_)
       ·have hj0 : j = 0 := by omega
        subst hj0
        refine ⟨.inr ⟨r, _, c, 1, hcs, rfl, hb⟩, ?_⟩
        simp only [Nat.mul_one, Nat.add_zero]
        rw [cell_own o4, Array.getElem?_eq_getElem (by omega)]
        simp [Array.getD, show off + i < cur.size by omega]
       ·have hj := lt_of_getElem? hy
        rw [(h1 i x hx').2] at hj
        have hj0 : j = 0 := by omega
        subst hj0
        have hi' := lt_of_getElem? hx'
        have hcell : x.cells = [x] := by
         have := List.all_eq_true.1 hsc x (List.mem_of_getElem? hx')
         cases x <;> first | rfl | cases this
        rw [hcell] at hy
        simp at hy
        subst hy
        have hd := List.getElem?_eq_getElem (l := (cs.drop off).take len) (i := i) (by simp; omega)
        have hf := a2 i _ _ hd hx'
        rw [List.getElem?_take, if_pos (by omega), List.getElem?_drop] at hd
        simp only [Nat.mul_one, Nat.add_zero]
        refine ih _ _ _ hf (o6 (off + i) _ _ ?_ hd)
        rw [Array.getElem?_eq_getElem (by omega)]
        simp [Array.getD, show off + i < cur.size by omega]
      ·cases hx
     ·cases hx
    ·cases hx
   ·rename_i k' cs hcs
    split at hx
    ·rename_i hle
     split at hx
     ·rename_i xs hxs
      split at hx
      ·rename_i hsc
       cases hx
       obtain ⟨rfl, o0, o2, o3, cur, e, o4, o5, o6⟩ := hi.obj r _ b c k hcs hb
       obtain ⟨a1, a2⟩ := allM_spec hxs
       rw [Nat.add_mul] at hle
       have hxl : xs.length = len * k' := by rw [a1, List.length_take, List.length_drop]; omega
       obtain ⟨c1, c2⟩ := chunk_spec k' len xs hxl
       have hin : off * k' + len * k' ≤ cur.size := by rw [o5]; omega
       have hpart : ∀ (i : Nat) (x : V), (chunk k' len xs)[i]? = some x → x = .agg ((xs.drop (i * k')).take k') ∧ ((xs.drop (i * k')).take k').length = k' := fun i x hx => by
        have hi' := lt_of_getElem? hx
        rw [c1] at hi'
        have h3 : (i + 1) * k' ≤ len * k' := Nat.mul_le_mul_right _ hi'
        rw [Nat.add_mul] at h3
        exact ⟨c2 i x hx, by rw [List.length_take, List.length_drop, hxl]; omega⟩
       have h1 : ∀ (i : Nat) (x : V), (chunk k' len xs)[i]? = some x → x.solid = true ∧ x.cells.length = k' := fun i x hx => by
        obtain ⟨rfl, hl⟩ := hpart i x hx
        refine ⟨?_, hl⟩
        show ((xs.drop (i * k')).take k').all V.scalar = true
        rw [List.all_eq_true] at hsc ⊢
        exact fun y hy => hsc y (List.mem_of_mem_drop (List.mem_of_mem_take hy))
       refine .sl _ b (off * k') cap k' len _ (fun q => cur.getD (off * k' + q) undef) c1.symm (by decide) (fun h => by cases h) hlc.1 (by omega) h1 (fun i j hi' hj => ?_) (fun i j x c' hx' hy => ?_)
       ·have := mul_lt_of (k := k') hi' hj
        refine ⟨.inr ⟨r, _, c, k', hcs, rfl, hb⟩, ?_⟩
        rw [cell_own o4, Array.getElem?_eq_getElem (by omega)]
        simp [Array.getD, show off * k' + (i * k' + j) < cur.size by omega]
       ·have hj := lt_of_getElem? hy
        rw [(h1 i x hx').2] at hj
        have hi' := lt_of_getElem? hx'
        rw [c1] at hi'
        have hm := mul_lt_of (k := k') hi' hj
        obtain ⟨rfl, _⟩ := hpart i x hx'
        have hy : ((xs.drop (i * k')).take k')[j]? = some c' := hy
        rw [List.getElem?_take, if_pos hj, List.getElem?_drop] at hy
        have hd := List.getElem?_eq_getElem (l := (cs.drop (off * k')).take (len * k')) (i := i * k' + j) (by rw [List.length_take, List.length_drop]; omega)
        have hf := a2 _ _ _ hd hy
        rw [List.getElem?_take, if_pos hm, List.getElem?_drop] at hd
        refine ih _ _ _ hf (o6 (off * k' + (i * k' + j)) _ _ ?_ hd)
        rw [Array.getElem?_eq_getElem (by omega)]
        simp [Array.getD, show off * k' + (i * k' + j) < cur.size by omega]
      ·cases hx
     ·cases hx
    ·cases hx
   ·cases hx
  | tsl t es =>
   simp only [frz, Option.some.injEq] at hx
   subst hx
   exact hv.unt.of_v.mono (keeps_own S β h w)
  | func f first cs =>
   cases first with
   | cons a b => simp [frz] at hx
   | nil =>
   simp only [frz] at hx
   obtain ⟨caps, hcaps, rfl⟩ := Option.map_eq_some_iff.1 hx
   obtain ⟨a1, a2⟩ := allM_spec hcaps
   cases hv with
   | func _ first captured _ _ hl hl' hr hr' =>
   obtain rfl : first = #[] := Array.eq_empty_of_size_eq_zero hl
   have key : ∀ i : Nat, ∃ q : Nat × Nat × List V × (Nat → Value), i < caps.length → (∀ v, captured[i]? = some v → v = .pointer (some ⟨q.1, q.2.1, none⟩)) ∧ (∀ x, caps[i]? = some x → x = .agg q.2.2.1) ∧
     (∀ j : Nat, j < q.2.2.1.length → withOwn S β h q.1 (q.2.1 + j) ∧ w.cell? ⟨q.1, q.2.1 + j, none⟩ = some (q.2.2.2 j)) ∧ ∀ (j : Nat) y, q.2.2.1[j]? = some y → RelV (withOwn S β h) w (q.2.2.2 j) y := by
    intro i
    by_cases hi' : i < caps.length
    ·have hx := List.getElem?_eq_getElem hi'
     have hd := List.getElem?_eq_getElem (l := cs) (i := i) (by omega)
     have hcv := Array.getElem?_eq_getElem (xs := captured) (i := i) (by omega)
     have hf := a2 i _ _ hd hx
     have hrel := hr' i _ _ hcv hd
     generalize caps[i] = x at hx hf
     generalize cs[i]'(by omega) = d at hd hf hrel
     generalize captured[i]'(by omega) = v at hcv hrel
     unfold frzCap at hf
     split at hf
     ·rename_i r
      split at hf
      ·rename_i ds hds
       obtain ⟨ys, hys, rfl⟩ := Option.map_eq_some_iff.1 hf
       obtain ⟨b1, b2⟩ := allM_spec hys
       cases hrel with
       | ptr _ _ b c k hb =>
       obtain ⟨rfl, o2, o3, cur, e, o4, o5, o6⟩ := hi.obj r _ b c k hds hb
       refine ⟨(b, 0, ys, fun j => cur.getD j undef), fun _ => ⟨fun v' hv' => ?_, fun x' hx' => ?_, fun j hj => ?_, fun j y hy => ?_⟩⟩
       ·rw [hcv] at hv'; exact (Option.some.inj hv').symm
       ·rw [hx] at hx'; exact (Option.some.inj hx').symm
       ·have hj' : j < ys.length := hj
        refine ⟨.inr ⟨r, _, c, 1, hds, rfl, hb⟩, ?_⟩
        simp only [Nat.zero_add]
        rw [cell_own o4, Array.getElem?_eq_getElem (by omega)]
        simp [Array.getD, show j < cur.size by omega]
       ·have hj' := lt_of_getElem? hy
        have hj' : j < ys.length := hj'
        have hdj := List.getElem?_eq_getElem (l := ds) (i := j) (by omega)
        refine ih _ _ _ (b2 j _ y hdj hy) (o6 j _ _ ?_ hdj)
        rw [Array.getElem?_eq_getElem (by omega)]
        simp [Array.getD, show j < cur.size by omega]
      ·cases hf
     ·rename_i ys
      cases hf
      cases hrel with
      | vptr b off _ vals hs hr =>
      refine ⟨(b, off, ys, vals), fun _ => ⟨fun v' hv' => ?_, fun x' hx' => ?_, fun j hj => ⟨.inl (hs j hj).1, (hs j hj).2⟩, fun j y hy => (hr j y hy).mono (keeps_own S β h w)⟩⟩
      ·rw [hcv] at hv'; exact (Option.some.inj hv').symm
      ·rw [hx] at hx'; exact (Option.some.inj hx').symm
     ·cases hf
    ·exact ⟨(0, 0, [], fun _ => undef), fun hlt => absurd hlt hi'⟩
   obtain ⟨q, hq⟩ := Classical.axiomOfChoice key
   exact .clo f captured caps q (by omega) (fun i v hv => (hq i (by have := (Array.getElem?_eq_some_iff.1 hv).1; omega)).1 v hv) (fun i x hx => (hq i (lt_of_getElem? hx)).2.1 x hx) (fun i j hi hj => (hq i hi).2.2.1 j hj) (fun i j y hi hy => (hq i hi).2.2.2 j y hy)
  | vptr cs =>
   simp only [frz, Option.some.injEq] at hx
   subst hx
   cases hv with
   | vptr b off _ vals hs hr => exact .ptr b off _ vals (fun j hj => ⟨.inl (hs j hj).1, (hs j hj).2⟩) (fun j x hx => (hr j x hx).mono (keeps_own S β h w))
  | map r =>
   simp only [frz] at hx
   split at hx
   ·rename_i ks vs ho
    obtain ⟨xs, hxs, rfl⟩ := Option.map_eq_some_iff.1 hx
    obtain ⟨a1, a2⟩ := allM_spec hxs
    cases hv with
    | map _ b c k hb =>
    obtain ⟨o1, o2, es, o3, o4, o5, o6, o7⟩ := hi.obj r _ b c k ho hb
    refine .map b es ks xs (.inr ⟨r, _, c, k, ho, rfl, hb⟩) (mapAt_of o3) o4 o5 (by omega) (fun i e x he hx => (o6 i e x he hx).mono (keeps_own S β h w)) (fun i e x he hx => ?_)
    have hlt := lt_of_getElem? hx
    have hd := List.getElem?_eq_getElem (l := vs) (i := i) (by omega)
    exact ih _ _ _ (a2 i _ x hd hx) (o7 i e _ he hd)
   ·cases hx
  | ptr r off =>
   cases off with
   | succ off => simp [frz] at hx
   | zero =>
   simp only [frz] at hx
   split at hx
   ·rename_i cs ho
    obtain ⟨xs, hxs, rfl⟩ := Option.map_eq_some_iff.1 hx
    obtain ⟨a1, a2⟩ := allM_spec hxs
    cases hv with
    | ptr _ _ b c k hb =>
    obtain ⟨rfl, o2, o3, cur, e, o4, o5, o6⟩ := hi.obj r _ b c k ho hb
    refine .ptr b 0 xs (fun j => cur.getD j undef) (fun j hj => ⟨.inr ⟨r, _, c, 1, ho, rfl, hb⟩, ?_⟩) (fun j x hx => ?_)
    ·rw [Nat.zero_add, cell_own o4, Array.getElem?_eq_getElem (by omega)]
     simp [Array.getD, show j < cur.size by omega]
    ·have hj := lt_of_getElem? hx
     have hd := List.getElem?_eq_getElem (l := cs) (i := j) (by omega)
     refine ih _ _ _ (a2 j _ x hd hx) (o6 j _ _ ?_ hd)
     rw [Array.getElem?_eq_getElem (by omega)]
     simp [Array.getD, show j < cur.size by omega]
   ·cases hx
  | _ => simp [frz] at hx
theorem flat_one {S S' : Nat → Nat → Prop} {w : World} {v : Value} {x : V} (h : RelV S w v x) (hf : x.flat = true) (hn : ∀ cs, x ≠ .agg cs ∧ x ≠ .tuple cs) : RelV S' w v x := by
 cases h with
 | bool b => exact .bool b
 | int k n => exact .int k n
 | str s => exact .str s
 | nilptr => exact .nilptr
 | nilmap => exact .nilmap
 | nilfunc => exact .nilfunc
 | nilif => exact .nilif
 | fn f => exact .fn f
 | clo f captured caps q hl hp hc hs hr => cases hf
 | ptr b off cells vals hs hr => cases hf
 | map b es ks vs hs hm hb hk hv hrk hrv => cases hf
 | slnil fl h => exact .slnil fl h
 | slemp fl a cap h hf0 hm => exact .slemp fl a cap h hf0 hm
 | sl fl b off cap k n es vals hn' h hf' hc hm hk hs hr =>
  have : es = [] := by simpa [V.flat] using hf
  subst this
  subst hn'
  exact .sl fl b off cap k 0 [] vals rfl h hf' hc hm hk (fun i j hi => by simp at hi) (fun i j x c hx => by simp at hx)
 | agg vs cs hl hr => exact absurd rfl (hn cs).1
 | tuple vs cs hl hr => exact absurd rfl (hn cs).2
theorem RelV.of_flat {S S' : Nat → Nat → Prop} {w : World} {v : Value} {x : V} (h : RelV S w v x) (hf : x.flat = true) : RelV S' w v x := by
 have inner : ∀ (v : Value) (y : V), RelV S w v y → (match y with
   | .bool _ | .int _ _ | .str _ | .nilptr | .nilmap | .nilfunc | .nilif | .fn _ => true
   | .sl _ es => es.isEmpty
   | _ => false) = true → RelV S' w v y := by
  intro v y hv hy
  have hne : ∀ cs, y ≠ .agg cs ∧ y ≠ .tuple cs := by
   intro cs
   constructor
   ·intro e; subst e; cases hy
   ·intro e; subst e; cases hy
  refine flat_one hv ?_ hne
  cases y <;> first | rfl | exact hy | cases hy
 have outer : ∀ (v : Value) (y : V), RelV S w v y → (match y with
   | .bool _ | .int _ _ | .str _ | .nilptr | .nilmap | .nilfunc | .nilif | .fn _ => true
   | .sl _ es => es.isEmpty
   | .agg cs => cs.all fun
    | .bool _ | .int _ _ | .str _ | .nilptr | .nilmap | .nilfunc | .nilif | .fn _ => true
    | .sl _ es => es.isEmpty
    | _ => false
   | _ => false) = true → RelV S' w v y := by
  intro v y hv hy
  by_cases ha : ∃ cs, y = .agg cs
  ·obtain ⟨cs, rfl⟩ := ha
   cases hv with
   | agg vs _ hl hr =>
   simp only [List.all_eq_true] at hy
   exact .agg vs cs hl (fun i v x hv hx => inner v x (hr i v x hv hx) (hy x (List.mem_of_getElem? hx)))
  ·refine inner v y hv ?_
   cases y <;> first | exact hy | exact absurd ⟨_, rfl⟩ ha
 by_cases ha : ∃ cs, x = .agg cs
 ·obtain ⟨cs, rfl⟩ := ha
  cases h with
  | agg vs _ hl hr =>
  simp only [V.flat, List.all_eq_true] at hf
  exact .agg vs cs hl (fun i v x hv hx => outer v x (hr i v x hv hx) (hf x (List.mem_of_getElem? hx)))
 ·by_cases hb : ∃ cs, x = .tuple cs
  ·obtain ⟨cs, rfl⟩ := hb
   cases h with
   | tuple vs _ hl hr =>
   simp only [V.flat, List.all_eq_true] at hf
   exact .tuple vs cs hl (fun i v x hv hx => outer v x (hr i v x hv hx) (hf x (List.mem_of_getElem? hx)))
  ·exact flat_one h hf (fun cs => ⟨fun e => ha ⟨cs, e⟩, fun e => hb ⟨cs, e⟩⟩)
def RelL (S : Nat → Nat → Prop) (β : Blocks) (w : World) (vs : Array Value) (ds : List D) : Prop := vs.size = ds.length ∧ ∀ (i : Nat) (v : Value) (d : D), vs[i]? = some v → ds[i]? = some d → RelD S β w v d
def Is (P : Program) (f : FuncId) : Prop := ∃ fn, P.funcs[f]? = some fn ∧ fn.body.isSome = true ∧ (fn.name == "runtime.NumGoroutine") = false
def CSound (DR : Prop) (P : Program) (Γ : Calling) : Prop := ∀ f ds h d h', Γ f ds h = some (d, h') → Is P f ∧ ∀ S β w vs, RelL S β w vs ds → HInv S β w h →
 Calls P f vs w fun e w' => ∃ v S' β', e = .returned v ∧ Ext DR S β w S' β' w' ∧ HInv S' β' w' h' ∧ RelD S' β' w' v d
theorem hinv_nil {S : Nat → Nat → Prop} {w : World} (hs : ∀ b i, S b i → b < w.heap.size) (hg : Glob S w) : HInv S [] w [] :=
 ⟨rfl, fun r o b c k h => by simp at h, fun r o b c k h => by simp at h, fun r r' o o' b c k c' k' h => by simp at h, fun r o b c k i h => by simp at h, hs, hg, fun r b c k h => by simp at h⟩
theorem own_sb {S : Nat → Nat → Prop} {β : Blocks} {w : World} {h : List AObj} (hi : HInv S β w h) : ∀ b i, withOwn S β h b i → b < w.heap.size := by
 intro b i hs
 rcases hs with hs | ⟨r, o, c, k, h1, h2, h3⟩
 ·exact hi.sb b i hs
 ·exact hi.lt r o b c k h1 h2 h3
theorem back_from {S Sc S1 S' : Nat → Nat → Prop} {β β1 : Blocks} {w w1 : World} {h h1 : List AObj} (hi : HInv S β w h) (hE : Ext DR Sc [] w S1 β1 w1) (hSc : ∀ b i, S b i → Sc b i)
  (hS' : ∀ b i, S b i → S' b i) (hin : ∀ b i, S' b i → S b i ∨ w.heap.size ≤ b) (hlt : ∀ b i, S' b i → b < w1.heap.size) : Ext DR S β w S' β w1 ∧ HInv S' β w1 h := by
 have hk : Keeps S w S' w1 := fun b i hs => ⟨hS' b i hs, (hE.keeps b i (hSc b i hs)).2⟩
 have hold : ∀ b, b < w.heap.size → w1.heap[b]? = w.heap[b]? := fun b hb => hE.rest b hb (fun r c k hr => by simp at hr)
 constructor
 ·exact ⟨hk, fun _ _ h => h, hE.size, fun b hb _ => hold b hb, fun r b c k hr => .inr ⟨r, c, k, hr⟩, hE.os, hE.tape, hE.output, hE.drawn, fun b i hs => by
   rcases hin b i hs with h | h
   ·exact .inl h
   ·exact .inr (.inl h)⟩
 ·refine ⟨hi.len, fun r o b c k g1 g2 => (hi.obj r o b c k g1 g2).mono hk (fun _ _ h => h) (fun hl => hold b (hi.lt r o b c k g1 hl g2)), fun r o b c k g1 hl g => Nat.lt_of_lt_of_le (hi.lt r o b c k g1 hl g) hE.size, hi.inj, fun r o b c k i g1 l1 g2 hs => ?_, hlt, hi.gl.mono hk, fun r b c k g => Nat.lt_of_lt_of_le (hi.dl r b c k g) hE.size⟩
  rcases hin b i hs with h | h
  ·exact hi.own r o b c k i g1 l1 g2 h
  ·have := hi.lt r o b c k g1 l1 g2; omega
theorem freed_frz {S : Nat → Nat → Prop} {w : World} {β : Blocks} {h : List AObj} {v : Value} {d d' : D} (hd : d.freed = true) (ha : argP h d = some d') (hr : RelD S β w v d) : RelD S [] w v d' := by
 cases d with
 | v x =>
  simp only [argP, frz, Option.map_some, Option.some.injEq] at ha
  subst ha
  exact .v _ _ hr.of_v.plainT
 | tsl t es =>
  simp only [argP, frz, Option.map_some, Option.some.injEq] at ha
  subst ha
  exact .v _ _ hr.unt.of_v
 | vptr cs =>
  simp only [argP, Option.some.injEq] at ha
  subst ha
  cases hr with
  | vptr b off _ vals hs hr => exact .vptr b off cs vals hs hr
 | _ => cases hd
theorem argP_own {S : Nat → Nat → Prop} {w : World} {β : Blocks} {h : List AObj} (hi : HInv S β w h) {v : Value} {d d' : D} (ha : argP h d = some d') (hr : RelD S β w v d) : RelD (withOwn S β h) [] w v d' := by
 unfold argP at ha
 split at ha
 ·cases ha
  cases hr with
  | vptr b off _ vals hs hr => exact .vptr b off _ vals (fun j hj => ⟨.inl (hs j hj).1, (hs j hj).2⟩) (fun j x hx => (hr j x hx).mono (keeps_own S β h w))
 ·obtain ⟨x, hx, rfl⟩ := Option.map_eq_some_iff.1 ha
  exact .v _ _ (frz_sound hi 6 _ _ _ hx hr)
theorem args_own {S : Nat → Nat → Prop} {β : Blocks} {w : World} {h : List AObj} (hi : HInv S β w h) {ds xs : List D} {vs : Array Value} (hx : allM (argP h) ds = some xs) (hr : RelL S β w vs ds) : RelL (withOwn S β h) [] w vs xs := by
 obtain ⟨a1, a2⟩ := allM_spec hx
 refine ⟨by simp [a1, hr.1], fun i v d hv hd => ?_⟩
 have hlt := lt_of_getElem? hd
 have hd' := List.getElem?_eq_getElem (l := ds) (i := i) (by omega)
 exact argP_own hi (a2 i _ d hd' hd) (hr.2 i v _ hv hd')
theorem args_freed {S : Nat → Nat → Prop} {β : Blocks} {w : World} {h : List AObj} {ds xs : List D} {vs : Array Value} (hx : allM (argP h) ds = some xs) (hp : ds.all D.freed = true) (hr : RelL S β w vs ds) : RelL S [] w vs xs := by
 obtain ⟨a1, a2⟩ := allM_spec hx
 refine ⟨by simpa [a1] using hr.1, fun i v d hv hd => ?_⟩
 have hlt := lt_of_getElem? hd
 have hd' := List.getElem?_eq_getElem (l := ds) (i := i) (by omega)
 exact freed_frz (List.all_eq_true.1 hp _ (List.mem_of_getElem? hd')) (a2 i _ d hd' hd) (hr.2 i v _ hv hd')
theorem flat_cells {x y : V} (hx : x.flat = true) (hy : y ∈ x.cells) : y.flat = true := by
 cases x with
 | agg cs =>
  simp only [V.flat, List.all_eq_true] at hx
  have := hx y hy
  cases y <;> first | rfl | exact this | skip
  ·rename_i ds'
   simp only [V.flat, List.all_eq_true] at this ⊢
   intro z hz
   have := this z hz
   cases z <;> first | rfl | exact this | cases this
  ·cases this
 | _ => simp [V.cells] at hy; subst hy; exact hx
theorem isV_spec {d : D} (h : d.isV = true) : ∃ x, d = .v x := by
 cases d <;> first | exact ⟨_, rfl⟩ | cases h
theorem RelD.reV {S : Nat → Nat → Prop} {β β' : Blocks} {w : World} {v : Value} {d : D} (h : RelD S β w v d) (hd : d.isV = true) : RelD S β' w v d := by
 obtain ⟨x, rfl⟩ := isV_spec hd
 exact .v _ _ h.of_v
theorem HInv.keepTok {S S1 : Nat → Nat → Prop} {β β1 : Blocks} {w w1 : World} {h h1 : List AObj} (hi : HInv S β w h) (e1 : Ext DR S β w S1 β w1) (e2 : HInv S1 β w1 h) (hI : HInv S1 β1 w1 h1) {r b c k a n : Nat} (hr : h1[r]? = some (.tok a n)) (hb : β1[r]? = some (b, c, k)) (hge : w.heap.size ≤ b) :
  Ext DR S β w S1 (β ++ [(b, c, k)]) w1 ∧ HInv S1 (β ++ [(b, c, k)]) w1 (h ++ [.tok a n]) := by
 have hlen := hi.len
 have hp : ∀ (q : Nat) x, β[q]? = some x → (β ++ [(b, c, k)])[q]? = some x := fun q x hx => (getElem?_snoc _ _ _ _).2 (.inl ⟨hx, lt_of_getElem? hx⟩)
 have old : ∀ (q : Nat) (o : AObj) x, (h ++ [.tok a n])[q]? = some o → (β ++ [(b, c, k)])[q]? = some x → (h[q]? = some o ∧ β[q]? = some x) ∨ (q = h.length ∧ o = .tok a n ∧ x = (b, c, k)) := by
  intro q o x g1 g2
  rcases (getElem?_snoc _ _ _ _).1 g1 with ⟨g1, j1⟩ | ⟨j1, g1⟩ <;> rcases (getElem?_snoc _ _ _ _).1 g2 with ⟨g2, j2⟩ | ⟨j2, g2⟩
  ·exact .inl ⟨g1, g2⟩
  ·omega
  ·omega
  ·exact .inr ⟨j1, g1.symm, g2.symm⟩
 have hnew := hI.obj r _ b c k hr hb
 have hlt := hI.lt r _ b c k hr rfl hb
 constructor
 ·refine ⟨e1.keeps, hp, e1.size, e1.rest, fun q b' c' k' hq => ?_, e1.os, e1.tape, e1.output, e1.drawn, e1.stay⟩
  rcases (getElem?_snoc _ _ _ _).1 hq with ⟨g, _⟩ | ⟨_, g⟩
  ·exact e1.fresh q b' c' k' g
  ·cases g; exact .inl hge
 ·refine ⟨by simp [hlen], fun q o b' c' k' g1 g2 => ?_, fun q o b' c' k' g1 l1 g2 => ?_, fun q1 q2 o1 o2 b' c1 k1 c2 k2 g1 l1 g2 l2 g3 g4 => ?_, fun q o b' c' k' i g1 l1 g2 => ?_, hI.sb, e2.gl, fun q b' c' k' hq => ?_⟩
  ·rcases old q o _ g1 g2 with ⟨g1, g2⟩ | ⟨rfl, rfl, g⟩
   ·exact (e2.obj q o b' c' k' g1 g2).mono (fun _ _ h => ⟨h, rfl⟩) hp (fun _ => rfl)
   ·cases g; exact hnew
  ·rcases old q o _ g1 g2 with ⟨g1, g2⟩ | ⟨rfl, rfl, g⟩
   ·exact e2.lt q o b' c' k' g1 l1 g2
   ·cases g; exact hlt
  ·rcases old q1 o1 _ g1 g3 with ⟨g1, g3⟩ | ⟨rfl, rfl, g⟩ <;> rcases old q2 o2 _ g2 g4 with ⟨g2, g4⟩ | ⟨rfl, rfl, g'⟩
   ·exact e2.inj q1 q2 o1 o2 b' c1 k1 c2 k2 g1 l1 g2 l2 g3 g4
   ·cases g'
    have := hi.lt q1 o1 b c1 k1 g1 l1 g3
    omega
   ·cases g
    have := hi.lt q2 o2 b c2 k2 g2 l2 g4
    omega
   ·rfl
  ·rcases old q o _ g1 g2 with ⟨g1, g2⟩ | ⟨rfl, rfl, g⟩
   ·exact e2.own q o b' c' k' i g1 l1 g2
   ·cases g; exact hI.own r _ b c k i hr rfl hb
  ·rcases (getElem?_snoc _ _ _ _).1 hq with ⟨g, _⟩ | ⟨_, g⟩
   ·exact e2.dl q b' c' k' g
   ·cases g; exact hlt
theorem ownKeep_sound {S S1 : Nat → Nat → Prop} {β β1 : Blocks} {w w1 : World} {h h1 h' : List AObj} {k : Nat} {d d' : D} {v : Value} (hi : HInv S β w h) (hE : Ext DR S [] w S1 β1 w1) (hI : HInv S1 β1 w1 h1) (hR : RelD S1 β1 w1 v d) (hk : ownKeep k d h1 h = some (d', h')) :
  ∃ S' β', Ext DR S β w S' β' w1 ∧ HInv S' β' w1 h' ∧ RelD S' β' w1 v d' := by
 have hin : ∀ b i, S1 b i → S b i ∨ w.heap.size ≤ b := by
  intro b i hs
  rcases hE.stay b i hs with g | g | ⟨r, c, k, g⟩
  ·exact .inl g
  ·exact .inr g
  ·simp at g
 obtain ⟨e1, e2⟩ := back_from (S' := S1) (h1 := h1) hi hE (fun _ _ h => h) (fun b i hs => (hE.keeps b i hs).1) hin hI.sb
 obtain ⟨p1, p2⟩ := e2.pad (DR := DR)
 unfold ownKeep at hk
 split at hk
 ·rename_i ds
  cases hR with
  | tuple vs cs hl hr =>
  split at hk
  ·rename_i r es hds
   split at hk
   ·rename_i a n ho
    split at hk
    ·rename_i hall
     cases hk
     rw [List.all_eq_true] at hall
     have hkl := lt_of_getElem? hds
     obtain ⟨v0, hv0⟩ : ∃ v0, vs[k]? = some v0 := ⟨vs[k]'(by omega), Array.getElem?_eq_getElem (by omega)⟩
     have hr0 := hr k v0 _ hv0 hds
     have hrl : r < β1.length := by rw [hI.len]; exact lt_of_getElem? ho
     obtain ⟨⟨b, c, k1⟩, hb⟩ : ∃ x, β1[r]? = some x := ⟨_, List.getElem?_eq_getElem hrl⟩
     have hge : w.heap.size ≤ b := by
      obtain ⟨k0, rfl⟩ := hI.kpos ho rfl hb
      rcases hE.fresh r b c k0 hb with g | ⟨r', c', k', g⟩
      ·exact g
      ·simp at g
     obtain ⟨f1, f2⟩ := hi.keepTok e1 e2 hI ho hb hge
     refine ⟨S1, _, f1, f2, .tuple vs _ (by simpa using hl) fun i v x g1 g2 => ?_⟩
     rw [List.getElem?_set] at g2
     split at g2
     ·rename_i e
      subst e
      cases g2
      have := hr k v _ g1 hds
      cases this with
      | tsl _ b' c' k' n' _ hb' hn hs hv =>
       rw [hb] at hb'; cases hb'
       refine .tsl _ b c k1 n' es ?_ hn hs hv
       rw [← hi.len]; simp
     ·rename_i hne
      have hx : x.isV = true := hall x (List.mem_of_getElem? (i := i) (by rw [List.getElem?_set_ne hne]; exact g2))
      exact (hr i v x g1 g2).reV hx
    ·cases hk
   ·cases hk
  ·split at hk
   ·rename_i hall
    cases hk
    rw [List.all_eq_true] at hall
    exact ⟨S1, _, e1.trans p1, p2, .tuple vs _ hl fun i v x g1 g2 => (hr i v x g1 g2).reV (hall x (List.mem_of_getElem? g2))⟩
   ·cases hk
  ·cases hk
 ·rename_i xs
  cases hk
  have hv := hR.of_v
  cases hv with
  | tuple vs cs hl hr =>
   refine ⟨S1, _, e1.trans p1, p2, .tuple vs _ (by simpa using hl) fun i v x g1 g2 => ?_⟩
   rw [List.getElem?_map] at g2
   obtain ⟨y, hy, rfl⟩ := Option.map_eq_some_iff.1 g2
   exact .v _ _ (hr i v y g1 hy)
 ·cases hk
theorem HInv.less {S : Nat → Nat → Prop} {β : Blocks} {w : World} {h h2 : List AObj} (hi : HInv S β w h) (hl : h2.length = h.length) (hs : ∀ (r : Nat) o, h2[r]? = some o → o.live = true → h[r]? = some o) : HInv S β w h2 := by
 refine ⟨by rw [hl]; exact hi.len, fun r o b c k g1 g2 => ?_, fun r o b c k g1 l1 g2 => hi.lt r o b c k (hs r o g1 l1) l1 g2, fun r r' o o' b c k c' k' g1 l1 g2 l2 g3 g4 => hi.inj r r' o o' b c k c' k' (hs r o g1 l1) l1 (hs r' o' g2 l2) l2 g3 g4,
  fun r o b c k i g1 l1 g2 => hi.own r o b c k i (hs r o g1 l1) l1 g2, hi.sb, hi.gl, hi.dl⟩
 cases hl : o.live with
 | false => cases o <;> first | trivial | cases hl
 | true => exact hi.obj r o b c k (hs r o g1 hl) g2
theorem HInv.widen {S S' : Nat → Nat → Prop} {β : Blocks} {w : World} {h : List AObj} (hi : HInv S β w h) (hS : ∀ b i, S b i → S' b i)
  (hn : ∀ b i, S' b i → S b i ∨ ∀ (q : Nat) o c k, h[q]? = some o → o.live = true → β[q]? = some (b, c, k) → False) (hsb : ∀ b i, S' b i → b < w.heap.size) : HInv S' β w h := by
 have hk : Keeps S w S' w := fun b i hs => ⟨hS b i hs, rfl⟩
 refine ⟨hi.len, fun r o b c k g1 g2 => (hi.obj r o b c k g1 g2).mono hk (fun _ _ h => h) (fun _ => rfl), hi.lt, hi.inj, fun r o b c k i g1 l1 g2 gs => ?_, hsb, hi.gl.mono hk, hi.dl⟩
 rcases hn b i gs with g | g
 ·exact hi.own r o b c k i g1 l1 g2 g
 ·exact (g r o c k g1 l1 g2).elim
def lentOk : AObj → Bool
 | .cells cs => cs.all D.isV
 | .tok _ _ => true
 | _ => false
theorem lentOk_live {o : AObj} (h : lentOk o = true) : o.live = true := by cases o <;> first | rfl | cases h
structure Lent (h : List AObj) (refs : List (Option Nat)) : Prop where
 ok : ∀ (j q : Nat), refs[j]? = some (some q) → ∃ o, h[q]? = some o ∧ lentOk o = true
 nd : ∀ (j j' q : Nat), refs[j]? = some (some q) → refs[j']? = some (some q) → j = j'
def blOf (β : Blocks) (w : World) (refs : List (Option Nat)) : Blocks := refs.map fun
 | none => (w.heap.size, 0, 0)
 | some q => β.getD q (w.heap.size, 0, 0)
theorem Lent.snoc {h : List AObj} {refs : List (Option Nat)} (hL : Lent h refs) {q : Nat} {o : AObj} (h1 : h[q]? = some o) (h2 : lentOk o = true) (h3 : refs.contains (some q) = false) : Lent h (refs ++ [some q]) := by
 have hn : ∀ j : Nat, refs[j]? ≠ some (some q) := fun j e => by
  have : refs.contains (some q) = true := List.contains_iff_mem.2 (List.mem_of_getElem? e)
  rw [h3] at this; cases this
 refine ⟨fun j q' hj => ?_, fun j j' q' hj hj' => ?_⟩
 ·rcases (getElem?_snoc _ _ _ _).1 hj with ⟨g, _⟩ | ⟨_, g⟩
  ·exact hL.ok j q' g
  ·cases g; exact ⟨o, h1, h2⟩
 ·rcases (getElem?_snoc _ _ _ _).1 hj with ⟨g, _⟩ | ⟨e, g⟩ <;> rcases (getElem?_snoc _ _ _ _).1 hj' with ⟨g', _⟩ | ⟨e', g'⟩
  ·exact hL.nd j j' q' g g'
  ·cases g'; exact absurd g (hn j)
  ·cases g; exact absurd g' (hn j')
  ·omega
theorem Lent.pad {h : List AObj} {refs : List (Option Nat)} (hL : Lent h refs) : Lent h (refs ++ [none]) := by
 refine ⟨fun j q' hj => ?_, fun j j' q' hj hj' => ?_⟩
 ·rcases (getElem?_snoc _ _ _ _).1 hj with ⟨g, _⟩ | ⟨_, g⟩
  ·exact hL.ok j q' g
  ·cases g
 ·rcases (getElem?_snoc _ _ _ _).1 hj with ⟨g, _⟩ | ⟨e, g⟩ <;> rcases (getElem?_snoc _ _ _ _).1 hj' with ⟨g', _⟩ | ⟨e', g'⟩
  ·exact hL.nd j j' q' g g'
  ·cases g'
  ·cases g
  ·cases g
theorem lendArg_sound {S : Nat → Nat → Prop} {β : Blocks} {w : World} {h : List AObj} (hi : HInv S β w h) {t : Bool} {refs rf : List (Option Nat)} {d d' : D} (hL : Lent h refs) (ha : lendArg t h refs d = some (d', rf)) :
  Lent h rf ∧ (∃ z, rf = refs ++ z) ∧ ∀ v, RelD S β w v d → ∀ y, RelD S (blOf β w (rf ++ y)) w v d' := by
 have hat : ∀ (q : Nat) (b c k : Nat) (y : List (Option Nat)), β[q]? = some (b, c, k) → (blOf β w ((refs ++ [some q]) ++ y))[refs.length]? = some (b, c, k) := by
  intro q b c k y hb
  unfold blOf
  rw [List.getElem?_map, List.append_assoc, List.getElem?_append_right (Nat.le_refl _), Nat.sub_self]
  simp [List.getD, hb]
 unfold lendArg at ha
 split at ha
 ·rename_i q off
  split at ha
  ·rename_i cs hq
   split at ha
   ·rename_i hc
    cases ha
    rw [Bool.and_eq_true, Bool.not_eq_true'] at hc
    refine ⟨hL.snoc hq hc.1 hc.2, ⟨_, rfl⟩, fun v hv y => ?_⟩
    cases hv with
    | ptr _ _ b c k hb => exact .ptr _ off b c k (hat q b c k y hb)
   ·cases ha
  ·cases ha
 ·rename_i q es
  split at ha
  ·split at ha
   ·rename_i a n hq
    split at ha
    ·rename_i hc
     cases ha
     rw [Bool.not_eq_true'] at hc
     refine ⟨hL.snoc hq rfl hc, ⟨_, rfl⟩, fun v hv y => ?_⟩
     cases hv with
     | tsl _ b c k n' _ hb hn hs hv => exact .tsl _ b c k n' es (hat q b c k y hb) hn hs hv
    ·cases ha
   ·cases ha
  ·cases ha
   exact ⟨hL, ⟨[], by simp⟩, fun v hv y => .v _ _ hv.unt.of_v⟩
 ·rename_i x
  split at ha
  ·cases ha
   exact ⟨hL.pad, ⟨_, rfl⟩, fun v hv y => .v _ _ hv.of_v⟩
  ·cases ha
   exact ⟨hL, ⟨[], by simp⟩, fun v hv y => .v _ _ hv.of_v.plainT⟩
 ·rename_i cs
  cases ha
  refine ⟨hL, ⟨[], by simp⟩, fun v hv y => ?_⟩
  cases hv with
  | vptr b off _ vals hs hr => exact .vptr b off cs vals hs hr
 ·cases ha
theorem lendA_sound {S : Nat → Nat → Prop} {β : Blocks} {w : World} {h : List AObj} (hi : HInv S β w h) {toks : List Nat} : ∀ {ds ds' : List D} {i : Nat} {refs rf : List (Option Nat)}, Lent h refs → lendA toks h i refs ds = some (ds', rf) →
  Lent h rf ∧ (∃ z, rf = refs ++ z) ∧ ds'.length = ds.length ∧ ∀ (j : Nat) v d d', ds[j]? = some d → ds'[j]? = some d' → RelD S β w v d → RelD S (blOf β w rf) w v d'
 | [], ds', i, refs, rf, hL, ha => by
  cases ha
  exact ⟨hL, ⟨[], by simp⟩, rfl, fun j v d d' hd => by simp at hd⟩
 | d :: r, ds', i, refs, rf, hL, ha => by
  unfold lendA at ha
  split at ha
  ·rename_i d1 rf1 h1
   split at ha
   ·rename_i ds1 rf2 h2
    cases ha
    obtain ⟨a1, ⟨z1, a2⟩, a3⟩ := lendArg_sound hi hL h1
    obtain ⟨b1, ⟨z2, b2⟩, b3, b4⟩ := lendA_sound hi a1 h2
    refine ⟨b1, ⟨z1 ++ z2, by rw [b2, a2, List.append_assoc]⟩, by simp [b3], fun j v d0 d0' g1 g2 hv => ?_⟩
    cases j with
    | zero =>
     simp at g1 g2
     subst g1; subst g2
     rw [b2]
     exact a3 v hv z2
    | succ j => exact b4 j v d0 d0' (by simpa using g1) (by simpa using g2) hv
   ·cases ha
  ·cases ha
section
variable {S : Nat → Nat → Prop} {β : Blocks} {w : World} {h : List AObj} {refs : List (Option Nat)}
theorem Lent.bl (hi : HInv S β w h) (hL : Lent h refs) {j q : Nat} (hj : refs[j]? = some (some q)) : ∃ b c k, β[q]? = some (b, c, k) ∧ (blOf β w refs)[j]? = some (b, c, k) := by
 obtain ⟨o, h1, _⟩ := hL.ok j q hj
 have hq : q < β.length := by rw [hi.len]; exact lt_of_getElem? h1
 obtain ⟨⟨b, c, k⟩, hb'⟩ : ∃ x, β[q]? = some x := ⟨_, List.getElem?_eq_getElem hq⟩
 refine ⟨b, c, k, hb', ?_⟩
 unfold blOf
 rw [List.getElem?_map, hj]
 simp [List.getD, hb']
theorem Lent.lb (hi : HInv S β w h) (hL : Lent h refs) {j b c k : Nat} (hj : (blOf β w refs)[j]? = some (b, c, k)) : (refs[j]? = some none ∧ k = 0) ∨ ∃ q, refs[j]? = some (some q) ∧ β[q]? = some (b, c, k) := by
 have hj' := hj
 unfold blOf at hj
 rw [List.getElem?_map] at hj
 obtain ⟨x, hx, e⟩ := Option.map_eq_some_iff.1 hj
 cases x with
 | none => cases e; exact .inl ⟨hx, rfl⟩
 | some q =>
  obtain ⟨b', c', k', g1, g2⟩ := hL.bl hi hx
  rw [hj'] at g2
  cases g2
  exact .inr ⟨q, hx, g1⟩
theorem lent_obj (hL : Lent h refs) {j : Nat} {o : AObj} (hj : (refs.map (lentObj h))[j]? = some o) : o = .dead ∨ ∃ q, refs[j]? = some (some q) ∧ h[q]? = some o ∧ lentOk o = true := by
 rw [List.getElem?_map] at hj
 obtain ⟨x, hx, e⟩ := Option.map_eq_some_iff.1 hj
 cases x with
 | none => exact .inl e.symm
 | some q =>
  obtain ⟨o', h1, h2⟩ := hL.ok j q hx
  right
  have : lentObj h (some q) = o' := by simp [lentObj, List.getD, h1]
  rw [this] at e
  subst e
  exact ⟨q, hx, h1, h2⟩
theorem ObjRel.lent {S S' : Nat → Nat → Prop} {β β' : Blocks} {w : World} {b c k : Nat} {o : AObj} (hk : Keeps S w S' w) (ho : lentOk o = true) (h : ObjRel S β w b c k o) : ObjRel S' β' w b c k o := by
 cases o with
 | cells cs =>
  obtain ⟨h1, h2, h3, cur, e, h4, h5, h6⟩ := h
  have ho : cs.all D.isV = true := ho
  rw [List.all_eq_true] at ho
  exact ⟨h1, h2, h3, cur, e, h4, h5, fun j v d hv hd => ((h6 j v d hv hd).reV (ho d (List.mem_of_getElem? hd)) : RelD S β' w v d).mono hk (fun _ _ h => h)⟩
 | tok a n => exact h
 | _ => cases ho
theorem lent_inv (hi : HInv S β w h) (hL : Lent h refs) : HInv S (blOf β w refs) w (refs.map (lentObj h)) := by
 refine ⟨by simp [blOf], fun r o b c k g1 g2 => ?_, fun r o b c k g1 l1 g2 => ?_, fun r r' o o' b c k c' k' g1 l1 g2 l2 g3 g4 => ?_, fun r o b c k i g1 l1 g2 gs => ?_, hi.sb, hi.gl, fun r b c k g => ?_⟩
 ·rcases lent_obj hL g1 with rfl | ⟨q, h1, h2, h3⟩
  ·trivial
  ·rcases hL.lb hi g2 with ⟨e, _⟩ | ⟨q', e, g⟩
   ·rw [h1] at e; cases e
   ·rw [h1] at e; cases e
    exact (hi.obj q o b c k h2 g).lent (fun _ _ h => ⟨h, rfl⟩) h3
 ·rcases lent_obj hL g1 with rfl | ⟨q, h1, h2, h3⟩
  ·cases l1
  ·rcases hL.lb hi g2 with ⟨e, _⟩ | ⟨q', e, g⟩
   ·rw [h1] at e; cases e
   ·rw [h1] at e; cases e
    exact hi.lt q o b c k h2 l1 g
 ·rcases lent_obj hL g1 with rfl | ⟨q, h1, h2, h3⟩
  ·cases l1
  rcases lent_obj hL g2 with rfl | ⟨q', h1', h2', h3'⟩
  ·cases l2
  rcases hL.lb hi g3 with ⟨e, _⟩ | ⟨p, e, g⟩
  ·rw [h1] at e; cases e
  rcases hL.lb hi g4 with ⟨e', _⟩ | ⟨p', e', g'⟩
  ·rw [h1'] at e'; cases e'
  rw [h1] at e; cases e
  rw [h1'] at e'; cases e'
  have := hi.inj q q' o o' b c k c' k' h2 l1 h2' l2 g g'
  subst this
  exact hL.nd r r' q h1 h1'
 ·rcases lent_obj hL g1 with rfl | ⟨q, h1, h2, h3⟩
  ·cases l1
  rcases hL.lb hi g2 with ⟨e, _⟩ | ⟨p, e, g⟩
  ·rw [h1] at e; cases e
  rw [h1] at e; cases e
  exact hi.own q o b c k i h2 l1 g gs
 ·rcases hL.lb hi g with ⟨_, e⟩ | ⟨p, e, g⟩
  ·cases e
  ·exact hi.dl p b c k g
end
theorem lendBack_spec {h1 : List AObj} : ∀ {refs : List (Option Nat)} {j : Nat} {h h' : List AObj}, (∀ (i i' q : Nat), refs[i]? = some (some q) → refs[i']? = some (some q) → i = i') → lendBack h1 j refs h = some h' →
  h'.length = h.length ∧ (∀ q : Nat, (∀ i : Nat, refs[i]? ≠ some (some q)) → h'[q]? = h[q]?) ∧ ∀ (i q : Nat), refs[i]? = some (some q) → h'[q]? = some .dead ∨ ∃ cs, h'[q]? = some (.cells cs) ∧ h1[j + i]? = some (.cells cs) ∧ cs.all D.isV = true
 | [], j, h, h', hn, e => by
  cases e
  exact ⟨rfl, fun q _ => rfl, fun i q hi => by simp at hi⟩
 | none :: r, j, h, h', hn, e => by
  unfold lendBack at e
  obtain ⟨a1, a2, a3⟩ := lendBack_spec (fun i i' q g g' => by have := hn (i + 1) (i' + 1) q (by simpa using g) (by simpa using g'); omega) e
  refine ⟨a1, fun q hq => a2 q fun i hi => hq (i + 1) (by simpa using hi), fun i q hi => ?_⟩
  cases i with
  | zero => simp at hi
  | succ i =>
   have := a3 i q (by simpa using hi)
   rwa [show j + (i + 1) = j + 1 + i by omega]
 | some q0 :: r, j, h, h', hn, e => by
  have hr : ∀ i : Nat, r[i]? ≠ some (some q0) := fun i g => by have := hn 0 (i + 1) q0 (by simp) (by simpa using g); omega
  have key : ∀ (o' : AObj), (∃ q : AObj, h[q0]? = some q) → lendBack h1 (j + 1) r (h.set q0 o') = some h' → (o' = .dead ∨ ∃ cs, o' = .cells cs ∧ h1[j]? = some (.cells cs) ∧ cs.all D.isV = true) →
    h'.length = h.length ∧ (∀ q : Nat, (∀ i : Nat, (some q0 :: r)[i]? ≠ some (some q)) → h'[q]? = h[q]?) ∧ ∀ (i q : Nat), (some q0 :: r)[i]? = some (some q) → h'[q]? = some .dead ∨ ∃ cs, h'[q]? = some (.cells cs) ∧ h1[j + i]? = some (.cells cs) ∧ cs.all D.isV = true := by
   rintro o' ⟨oq, hq0⟩ e ho
   have hlt := lt_of_getElem? hq0
   obtain ⟨a1, a2, a3⟩ := lendBack_spec (fun i i' q g g' => by have := hn (i + 1) (i' + 1) q (by simpa using g) (by simpa using g'); omega) e
   refine ⟨by simpa using a1, fun q hq => ?_, fun i q hi => ?_⟩
   ·rw [a2 q fun i hi => hq (i + 1) (by simpa using hi), List.getElem?_set_ne]
    rintro rfl
    exact hq 0 (by simp)
   ·cases i with
    | zero =>
     simp at hi
     subst hi
     rw [a2 q0 hr, List.getElem?_set_self hlt]
     rcases ho with rfl | ⟨cs, rfl, h2, h3⟩
     ·exact .inl rfl
     ·exact .inr ⟨cs, rfl, by simpa using h2, h3⟩
    | succ i =>
     have := a3 i q (by simpa using hi)
     rwa [show j + (i + 1) = j + 1 + i by omega]
  unfold lendBack at e
  split at e
  ·rename_i cs0 hq0
   split at e
   ·rename_i cs hj
    split at e
    ·rename_i hall
     exact key _ ⟨_, hq0⟩ e (.inr ⟨cs, rfl, hj, hall⟩)
    ·cases e
   ·cases e
  ·rename_i a n hq0
   exact key _ ⟨_, hq0⟩ e (.inl rfl)
  ·cases e
theorem lent_apart {S S1 : Nat → Nat → Prop} {β : Blocks} {w : World} {h : List AObj} {refs : List (Option Nat)} (hi : HInv S β w h) (hL : Lent h refs) {q : Nat} {o : AObj} {b c k : Nat} (hq : ∀ i : Nat, refs[i]? ≠ some (some q)) (h1 : h[q]? = some o) (l1 : o.live = true) (hb : β[q]? = some (b, c, k)) :
  b < w.heap.size ∧ ∀ j c' k' : Nat, (blOf β w refs)[j]? ≠ some (b, c', k' + 1) := by
 refine ⟨hi.lt q o b c k h1 l1 hb, fun j c' k' g => ?_⟩
 rcases hL.lb hi g with ⟨_, e⟩ | ⟨p, e, g⟩
 ·cases e
 ·obtain ⟨o', g1, g2⟩ := hL.ok j p e
  have := hi.inj q p o o' b c k c' (k' + 1) h1 l1 g1 (lentOk_live g2) hb g
  subst this
  exact hq j e
theorem lent_back {S S1 : Nat → Nat → Prop} {β β1 : Blocks} {w w1 : World} {h h1 h' : List AObj} {refs : List (Option Nat)} (hi : HInv S β w h) (hL : Lent h refs) (hE : Ext DR S (blOf β w refs) w S1 β1 w1) (hI : HInv S1 β1 w1 h1) (hb : lendBack h1 0 refs h = some h') :
  Ext DR S β w S1 β w1 ∧ HInv S1 β w1 h' ∧ (∀ (q : Nat) o, h'[q]? = some o → o.live = true → ∃ o', h[q]? = some o' ∧ o'.live = true) ∧
  (∀ (q : Nat) (o : AObj) (b c k : Nat), h'[q]? = some o → o.live = true → β[q]? = some (b, c, k) → (∃ (j : Nat) (cs : List D), refs[j]? = some (some q) ∧ β1[j]? = some (b, c, k) ∧ o = .cells cs ∧ h1[j]? = some o) ∨ (b < w.heap.size ∧ ∀ j c' k' : Nat, (blOf β w refs)[j]? ≠ some (b, c', k' + 1))) := by
 obtain ⟨b1, b2, b3⟩ := lendBack_spec (fun i i' q g g' => hL.nd i i' q g g') hb
 have hcase : ∀ (q : Nat) o, h'[q]? = some o → o.live = true → (∃ (j : Nat) (cs : List D), refs[j]? = some (some q) ∧ o = .cells cs ∧ h1[j]? = some (.cells cs) ∧ cs.all D.isV = true) ∨ ((∀ i : Nat, refs[i]? ≠ some (some q)) ∧ h[q]? = some o) := by
  intro q o g l
  by_cases hq : ∃ i : Nat, refs[i]? = some (some q)
  ·obtain ⟨i, hq⟩ := hq
   rcases b3 i q hq with e | ⟨cs, e1, e2, e3⟩
   ·rw [g] at e; cases e; cases l
   ·rw [g] at e1; cases e1
    exact .inl ⟨i, cs, hq, rfl, by simpa using e2, e3⟩
  ·have hq' : ∀ i : Nat, refs[i]? ≠ some (some q) := fun i e => hq ⟨i, e⟩
   rw [b2 q hq'] at g
   exact .inr ⟨hq', g⟩
 have hlive : ∀ (q : Nat) o, h'[q]? = some o → o.live = true → ∃ o', h[q]? = some o' ∧ o'.live = true := by
  intro q o g l
  rcases hcase q o g l with ⟨j, cs, e1, _⟩ | ⟨_, e⟩
  ·obtain ⟨o', g1, g2⟩ := hL.ok j q e1
   exact ⟨o', g1, lentOk_live g2⟩
  ·exact ⟨o, e, l⟩
 have hcell : ∀ (j q b c k : Nat), refs[j]? = some (some q) → β[q]? = some (b, c, k) → β1[j]? = some (b, c, k) := by
  intro j q b c k e g
  obtain ⟨b', c', k', g1, g2⟩ := hL.bl hi e
  rw [g] at g1; cases g1
  exact hE.pre j _ g2
 have hstay : ∀ b i, S1 b i → S b i ∨ w.heap.size ≤ b ∨ ∃ j c k : Nat, (blOf β w refs)[j]? = some (b, c, k + 1) := hE.stay
 have hup : ∀ j b c k : Nat, (blOf β w refs)[j]? = some (b, c, k + 1) → ∃ r c k : Nat, β[r]? = some (b, c, k + 1) := by
  intro j b c k g
  rcases hL.lb hi g with ⟨_, e⟩ | ⟨p, e, g⟩
  ·cases e
  ·exact ⟨p, c, k, g⟩
 refine ⟨⟨hE.keeps, fun _ _ h => h, hE.size, fun b hb hn => hE.rest b hb fun j c k g => ?_, fun r b c k g => .inr ⟨r, c, k, g⟩, hE.os, hE.tape, hE.output, hE.drawn, fun b i g => ?_⟩, ?_, hlive, ?_⟩
 ·obtain ⟨r, c', k', g'⟩ := hup j b c k g
  exact hn r c' k' g'
 ·rcases hstay b i g with g | g | ⟨j, c, k, g⟩
  ·exact .inl g
  ·exact .inr (.inl g)
  ·exact .inr (.inr (hup j b c k g))
 ·refine ⟨by rw [b1]; exact hi.len, fun q o b c k g1 g2 => ?_, fun q o b c k g1 l1 g2 => ?_, fun q q' o o' b c k c' k' g1 l1 g2 l2 g3 g4 => ?_, fun q o b c k i g1 l1 g2 gs => ?_, hI.sb, hi.gl.mono hE.keeps, fun r b c k g => Nat.lt_of_lt_of_le (hi.dl r b c k g) hE.size⟩
  ·cases hl : o.live with
   | false => cases o <;> first | trivial | cases hl
   | true =>
    rcases hcase q o g1 hl with ⟨j, cs, e1, rfl, e3, e4⟩ | ⟨e1, e2⟩
    ·exact (hI.obj j _ b c k e3 (hcell j q b c k e1 g2)).lent (fun _ _ h => ⟨h, rfl⟩) e4
    ·obtain ⟨p1, p2⟩ := lent_apart (S1 := S1) hi hL e1 e2 hl g2
     exact (hi.obj q o b c k e2 g2).mono hE.keeps (fun _ _ h => h) (fun _ => hE.rest b p1 fun r c' k' => p2 r c' k')
  ·rcases hcase q o g1 l1 with ⟨j, cs, e1, rfl, e3, e4⟩ | ⟨e1, e2⟩
   ·exact hI.lt j _ b c k e3 l1 (hcell j q b c k e1 g2)
   ·exact Nat.lt_of_lt_of_le (hi.lt q o b c k e2 l1 g2) hE.size
  ·obtain ⟨x, x1, x2⟩ := hlive q o g1 l1
   obtain ⟨y, y1, y2⟩ := hlive q' o' g2 l2
   exact hi.inj q q' x y b c k c' k' x1 x2 y1 y2 g3 g4
  ·rcases hcase q o g1 l1 with ⟨j, cs, e1, rfl, e3, e4⟩ | ⟨e1, e2⟩
   ·exact hI.own j _ b c k i e3 l1 (hcell j q b c k e1 g2) gs
   ·obtain ⟨p1, p2⟩ := lent_apart (S1 := S1) hi hL e1 e2 l1 g2
    rcases hstay b i gs with g | g | ⟨j, c', k', g⟩
    ·exact hi.own q o b c k i e2 l1 g2 g
    ·omega
    ·exact (p2 j c' k' g).elim
 ·intro q o b c k g1 l1 g2
  rcases hcase q o g1 l1 with ⟨j, cs, e1, rfl, e3, e4⟩ | ⟨e1, e2⟩
  ·exact .inl ⟨j, cs, e1, hcell j q b c k e1 g2, rfl, e3⟩
  ·exact .inr (lent_apart (S1 := S1) hi hL e1 e2 l1 g2)
theorem HInv.keepTok' {S S1 : Nat → Nat → Prop} {β β1 : Blocks} {w w1 : World} {h h1 : List AObj} (e1 : Ext DR S β w S1 β w1) (e2 : HInv S1 β w1 h) (hI : HInv S1 β1 w1 h1) {r b c k a n : Nat} (hr : h1[r]? = some (.tok a n)) (hb : β1[r]? = some (b, c, k))
  (hfr : w.heap.size ≤ b ∨ ∃ r' c' k' : Nat, β[r']? = some (b, c', k' + 1)) (hne : ∀ (q : Nat) o c' k', h[q]? = some o → o.live = true → β[q]? = some (b, c', k') → False) :
  Ext DR S β w S1 (β ++ [(b, c, k)]) w1 ∧ HInv S1 (β ++ [(b, c, k)]) w1 (h ++ [.tok a n]) := by
 have hlen := e2.len
 have hp : ∀ (q : Nat) x, β[q]? = some x → (β ++ [(b, c, k)])[q]? = some x := fun q x hx => (getElem?_snoc _ _ _ _).2 (.inl ⟨hx, lt_of_getElem? hx⟩)
 have old : ∀ (q : Nat) (o : AObj) x, (h ++ [.tok a n])[q]? = some o → (β ++ [(b, c, k)])[q]? = some x → (h[q]? = some o ∧ β[q]? = some x) ∨ (q = h.length ∧ o = .tok a n ∧ x = (b, c, k)) := by
  intro q o x g1 g2
  rcases (getElem?_snoc _ _ _ _).1 g1 with ⟨g1, j1⟩ | ⟨j1, g1⟩ <;> rcases (getElem?_snoc _ _ _ _).1 g2 with ⟨g2, j2⟩ | ⟨j2, g2⟩
  ·exact .inl ⟨g1, g2⟩
  ·omega
  ·omega
  ·exact .inr ⟨j1, g1.symm, g2.symm⟩
 have hnew := hI.obj r _ b c k hr hb
 have hlt := hI.lt r _ b c k hr rfl hb
 constructor
 ·refine ⟨e1.keeps, hp, e1.size, e1.rest, fun q b' c' k' hq => ?_, e1.os, e1.tape, e1.output, e1.drawn, e1.stay⟩
  rcases (getElem?_snoc _ _ _ _).1 hq with ⟨g, _⟩ | ⟨_, g⟩
  ·exact e1.fresh q b' c' k' g
  ·cases g; exact hfr
 ·refine ⟨by simp [hlen], fun q o b' c' k' g1 g2 => ?_, fun q o b' c' k' g1 l1 g2 => ?_, fun q1 q2 o1 o2 b' c1 k1 c2 k2 g1 l1 g2 l2 g3 g4 => ?_, fun q o b' c' k' i g1 l1 g2 => ?_, hI.sb, e2.gl, fun q b' c' k' hq => ?_⟩
  ·rcases old q o _ g1 g2 with ⟨g1, g2⟩ | ⟨rfl, rfl, g⟩
   ·exact (e2.obj q o b' c' k' g1 g2).mono (fun _ _ h => ⟨h, rfl⟩) hp (fun _ => rfl)
   ·cases g; exact hnew
  ·rcases old q o _ g1 g2 with ⟨g1, g2⟩ | ⟨rfl, rfl, g⟩
   ·exact e2.lt q o b' c' k' g1 l1 g2
   ·cases g; exact hlt
  ·rcases old q1 o1 _ g1 g3 with ⟨g1, g3⟩ | ⟨rfl, rfl, g⟩ <;> rcases old q2 o2 _ g2 g4 with ⟨g2, g4⟩ | ⟨rfl, rfl, g'⟩
   ·exact e2.inj q1 q2 o1 o2 b' c1 k1 c2 k2 g1 l1 g2 l2 g3 g4
   ·cases g'
    exact (hne q1 o1 _ _ g1 l1 g3).elim
   ·cases g
    exact (hne q2 o2 _ _ g2 l2 g4).elim
   ·rfl
  ·rcases old q o _ g1 g2 with ⟨g1, g2⟩ | ⟨rfl, rfl, g⟩
   ·exact e2.own q o b' c' k' i g1 l1 g2
   ·cases g; exact hI.own r _ b c k i hr rfl hb
  ·rcases (getElem?_snoc _ _ _ _).1 hq with ⟨g, _⟩ | ⟨_, g⟩
   ·exact e2.dl q b' c' k' g
   ·cases g; exact hlt
def Handed (S1 : Nat → Nat → Prop) (β β1 : Blocks) (w : World) (h h1 : List AObj) : Prop := ∀ (r a n b c k : Nat), h1[r]? = some (.tok a n) → β1[r]? = some (b, c, k) →
 (w.heap.size ≤ b ∨ ∃ r' c' k' : Nat, β[r']? = some (b, c', k' + 1)) ∧ ∀ (q : Nat) o c' k', h[q]? = some o → o.live = true → β[q]? = some (b, c', k') → False
theorem keepOne_sound {S S1 : Nat → Nat → Prop} {β β1 : Blocks} {w w1 : World} {h h1 h' : List AObj} {d d' : D} {v : Value} (e1 : Ext DR S β w S1 β w1) (e2 : HInv S1 β w1 h) (hI : HInv S1 β1 w1 h1) (hH : Handed S1 β β1 w h h1) (hR : RelD S1 β1 w1 v d) (hk : keepOne d h1 h = some (d', h')) :
  ∃ S' β', Ext DR S β w S' β' w1 ∧ HInv S' β' w1 h' ∧ RelD S' β' w1 v d' := by
 obtain ⟨p1, p2⟩ := e2.pad (DR := DR)
 unfold keepOne at hk
 split at hk
 ·rename_i r es
  split at hk
  ·rename_i a n ho
   cases hk
   have hrl : r < β1.length := by rw [hI.len]; exact lt_of_getElem? ho
   obtain ⟨⟨b, c, k1⟩, hb⟩ : ∃ x, β1[r]? = some x := ⟨_, List.getElem?_eq_getElem hrl⟩
   obtain ⟨g1, g2⟩ := hH r a n b c k1 ho hb
   obtain ⟨f1, f2⟩ := HInv.keepTok' e1 e2 hI ho hb g1 g2
   refine ⟨S1, _, f1, f2, ?_⟩
   cases hR with
   | tsl _ b' c' k' n' _ hb' hn hs hv =>
    rw [hb] at hb'; cases hb'
    refine .tsl _ b c k1 n' es ?_ hn hs hv
    rw [← e2.len]; simp
  ·cases hk
 ·cases hk
  exact ⟨S1, _, e1.trans p1, p2, .v _ _ hR.of_v⟩
 ·cases hk
theorem ownKeep_sound' {S S1 : Nat → Nat → Prop} {β β1 : Blocks} {w w1 : World} {h h1 h' : List AObj} {k : Nat} {d d' : D} {v : Value} (e1 : Ext DR S β w S1 β w1) (e2 : HInv S1 β w1 h) (hI : HInv S1 β1 w1 h1) (hH : Handed S1 β β1 w h h1) (hR : RelD S1 β1 w1 v d) (hk : ownKeep k d h1 h = some (d', h')) :
  ∃ S' β', Ext DR S β w S' β' w1 ∧ HInv S' β' w1 h' ∧ RelD S' β' w1 v d' := by
 obtain ⟨p1, p2⟩ := e2.pad (DR := DR)
 unfold ownKeep at hk
 split at hk
 ·rename_i ds
  cases hR with
  | tuple vs cs hl hr =>
  split at hk
  ·rename_i r es hds
   split at hk
   ·rename_i a n ho
    split at hk
    ·rename_i hall
     cases hk
     rw [List.all_eq_true] at hall
     have hkl := lt_of_getElem? hds
     have hrl : r < β1.length := by rw [hI.len]; exact lt_of_getElem? ho
     obtain ⟨⟨b, c, k1⟩, hb⟩ : ∃ x, β1[r]? = some x := ⟨_, List.getElem?_eq_getElem hrl⟩
     obtain ⟨g1, g2⟩ := hH r a n b c k1 ho hb
     obtain ⟨f1, f2⟩ := HInv.keepTok' e1 e2 hI ho hb g1 g2
     refine ⟨S1, _, f1, f2, .tuple vs _ (by simpa using hl) fun i v x g1 g2 => ?_⟩
     rw [List.getElem?_set] at g2
     split at g2
     ·rename_i e
      subst e
      cases g2
      have := hr k v _ g1 hds
      cases this with
      | tsl _ b' c' k' n' _ hb' hn hs hv =>
       rw [hb] at hb'; cases hb'
       refine .tsl _ b c k1 n' es ?_ hn hs hv
       rw [← e2.len]; simp
     ·rename_i hne
      have hx : x.isV = true := hall x (List.mem_of_getElem? (i := i) (by rw [List.getElem?_set_ne hne]; exact g2))
      exact (hr i v x g1 g2).reV hx
    ·cases hk
   ·cases hk
  ·split at hk
   ·rename_i hall
    cases hk
    rw [List.all_eq_true] at hall
    exact ⟨S1, _, e1.trans p1, p2, .tuple vs _ hl fun i v x g1 g2 => (hr i v x g1 g2).reV (hall x (List.mem_of_getElem? g2))⟩
   ·cases hk
  ·cases hk
 ·rename_i xs
  cases hk
  have hv := hR.of_v
  cases hv with
  | tuple vs cs hl hr =>
   refine ⟨S1, _, e1.trans p1, p2, .tuple vs _ (by simpa using hl) fun i v x g1 g2 => ?_⟩
   rw [List.getElem?_map] at g2
   obtain ⟨y, hy, rfl⟩ := Option.map_eq_some_iff.1 g2
   exact .v _ _ (hr i v y g1 hy)
 ·cases hk
theorem unlent_get {n : Nat} {h1 : List AObj} {r : Nat} {o : AObj} (hn : n ≤ h1.length) (h : (unlent n h1)[r]? = some o) (l : o.live = true) : n ≤ r ∧ h1[r]? = some o := by
 unfold unlent at h
 rcases Nat.lt_or_ge r n with g | g
 ·rw [List.getElem?_append_left (by simpa using g), List.getElem?_replicate, if_pos g] at h
  cases h; cases l
 ·rw [List.getElem?_append_right (by simpa using g), List.length_replicate, List.getElem?_drop] at h
  rw [show n + (r - n) = r by omega] at h
  exact ⟨g, h⟩
theorem lendD_sound {P : Program} {L : Lend} {Γ : Calling} (hΓ : CSound DR P Γ) : CSound DR P (lendD L Γ) := by
 intro f ds h d h' hd
 unfold lendD at hd
 split at hd
 ·cases hd
 ·rename_i ds' refs hA
  split at hd
  ·cases hd
  ·rename_i d1 h1 hcall
   split at hd
   ·cases hd
   ·rename_i h2 hback
    split at hd
    case isFalse => cases hd
    rename_i hnl
    obtain ⟨hex, hcalls⟩ := hΓ f _ _ d1 h1 hcall
    refine ⟨hex, fun S β w vs hrel hi => ?_⟩
    have hL0 : Lent h [] := ⟨fun j q hj => by simp at hj, fun j j' q hj => by simp at hj⟩
    obtain ⟨hL, _, hlen, hargs⟩ := lendA_sound hi hL0 hA
    have hrel' : RelL S (blOf β w refs) w vs ds' := ⟨by rw [hrel.1, hlen], fun i v d' hv hd' => by
     have hlt := lt_of_getElem? hd'
     have hd0 := List.getElem?_eq_getElem (l := ds) (i := i) (by omega)
     exact hargs i v _ d' hd0 hd' (hrel.2 i v _ hv hd0)⟩
    refine (hcalls S _ w vs hrel' (lent_inv hi hL)).mono ?_
    rintro e w1 ⟨v, S1, β1, rfl, hE, hI, hR⟩
    obtain ⟨e1, e2, hlive, hap⟩ := lent_back hi hL hE hI hback
    have hH : Handed S1 β β1 w h2 h1 := by
     intro r a n b c k g1 g2
     obtain ⟨k0, rfl⟩ := hI.kpos g1 rfl g2
     refine ⟨?_, fun q o c' k' q1 q2 q3 => ?_⟩
     ·rcases hE.fresh r b c k0 g2 with g | ⟨j, c', k', g⟩
      ·exact .inl g
      ·rcases hL.lb hi g with ⟨_, e⟩ | ⟨p, e, g⟩
       ·cases e
       ·exact .inr ⟨p, c', k', g⟩
     ·rcases hap q o b c' k' q1 q2 q3 with ⟨j, cs, e1, e2, e3, e4⟩ | ⟨e1, e2⟩
      ·subst e3
       have := hI.inj r j _ _ b c (k0 + 1) c' k' g1 rfl e4 q2 g2 e2
       subst this
       rw [g1] at e4; cases e4
      ·rcases hE.fresh r b c k0 g2 with g | ⟨j, c'', k'', g⟩
       ·omega
       ·exact e2 j c'' k'' g
    unfold lendRes at hd
    split at hd
    ·obtain ⟨x, hx, e⟩ := Option.map_eq_some_iff.1 hd
     cases e
     have hU : HInv S1 β1 w1 (unlent refs.length h1) := hI.less (by unfold unlent; simp; omega) fun r o g l => (unlent_get hnl g l).2
     have hfrs : ∀ b i, withOwn S1 β1 (unlent refs.length h1) b i → S1 b i ∨ ∃ r o c k, refs.length ≤ r ∧ h1[r]? = some o ∧ o.live = true ∧ β1[r]? = some (b, c, k + 1) := by
      intro b i g
      rcases g with g | ⟨r, o, c, k, g1, g2, g3⟩
      ·exact .inl g
      ·obtain ⟨k0, rfl⟩ := hU.kpos g1 g2 g3
       obtain ⟨a1, a2⟩ := unlent_get hnl g1 g2
       exact .inr ⟨r, o, c, k0, a1, a2, g2, g3⟩
     refine ⟨v, withOwn S1 β1 (unlent refs.length h1), β, rfl, ⟨fun b i hs => ⟨.inl (e1.keeps b i hs).1, (e1.keeps b i hs).2⟩, e1.pre, e1.size, e1.rest, e1.fresh, e1.os, e1.tape, e1.output, e1.drawn, fun b i g => ?_⟩,
      e2.widen (fun b i g => .inl g) (fun b i g => ?_) (own_sb hU), .v _ _ (frz_sound hU 6 _ _ _ hx hR)⟩
     ·rcases hfrs b i g with g | ⟨r, o, c, k, _, _, _, g⟩
      ·exact e1.stay b i g
      ·rcases hE.fresh r b c k g with g | ⟨j, c', k', g⟩
       ·exact .inr (.inl g)
       ·rcases hL.lb hi g with ⟨_, e⟩ | ⟨p, e, g⟩
        ·cases e
        ·exact .inr (.inr ⟨p, c', k', g⟩)
     ·rcases hfrs b i g with g | ⟨r, o, c, k, a1, a2, a3, g⟩
      ·exact .inl g
      ·refine .inr fun q o' c' k' q1 q2 q3 => ?_
       rcases hap q o' b c' k' q1 q2 q3 with ⟨j, cs, e1, e2, e3, e4⟩ | ⟨e1, e2⟩
       ·have := hI.inj r j _ _ b c (k + 1) c' k' a2 a3 e4 q2 g e2
        have hj := lt_of_getElem? e1
        omega
       ·rcases hE.fresh r b c k g with g | ⟨j, c'', k'', g⟩
        ·omega
        ·exact e2 j c'' k'' g
    ·split at hd
     ·obtain ⟨S', β', f1, f2, f3⟩ := keepOne_sound e1 e2 hI hH hR hd
      exact ⟨v, S', β', rfl, f1, f2, f3⟩
     ·obtain ⟨S', β', f1, f2, f3⟩ := ownKeep_sound' e1 e2 hI hH hR hd
      exact ⟨v, S', β', rfl, f1, f2, f3⟩
theorem callD_sound {P : Program} {E : Env} {Γ : Calling} (hΓ : CSound DR P Γ) : CSound DR P (callD E Γ) := by
 intro f ds h d h' hd
 unfold callD at hd
 split at hd
 ·split at hd
  ·cases hd
  ·rename_i xs hxs
   split at hd
   ·cases hd
   ·rename_i d1 h1 hcall
    split at hd
    ·cases hd
    ·rename_i r hr
     split at hd
     ·rename_i hc
      cases hd
      obtain ⟨hex, hcalls⟩ := hΓ f _ [] d1 h1 hcall
      refine ⟨hex, fun S β w vs hrel hi => ?_⟩
      rw [Bool.or_eq_true, Bool.or_eq_true] at hc
      by_cases hp : ds.all D.freed = true
      ·refine (hcalls S [] w vs (args_freed hxs hp hrel) (hinv_nil hi.sb hi.gl)).mono ?_
       rintro e w1 ⟨v, S1, β1, rfl, hE, hI, hR⟩
       have hin : ∀ b i, withOwn S1 β1 h1 b i → S b i ∨ w.heap.size ≤ b := by
        intro b i hs
        rcases hs with hs | ⟨r, o, c, k, g1, g2, g3⟩
        ·rcases hE.stay b i hs with g | g | ⟨r, c, k, g⟩
         ·exact .inl g
         ·exact .inr g
         ·simp at g
        ·obtain ⟨k0, rfl⟩ := hI.kpos g1 g2 g3
         rcases hE.fresh r b c k0 g3 with g | ⟨r', c', k', g⟩
         ·exact .inr g
         ·simp at g
       obtain ⟨e1, e2⟩ := back_from (S' := withOwn S1 β1 h1) (h1 := h1) hi hE (fun _ _ h => h) (fun b i hs => .inl (hE.keeps b i hs).1) hin (own_sb hI)
       exact ⟨v, _, β, rfl, e1, e2, .v _ _ (frz_sound hI 6 _ _ _ hr hR)⟩
      ·by_cases hflat : r.flat = true
       ·refine (hcalls (withOwn S β h) [] w vs (args_own hi hxs hrel) (hinv_nil (own_sb hi) (hi.gl.mono fun _ _ h => ⟨.inl h, rfl⟩))).mono ?_
        rintro e w1 ⟨v, S1, β1, rfl, hE, hI, hR⟩
        obtain ⟨e1, e2⟩ := back_from (S' := S) (h1 := h1) hi hE (fun _ _ h => .inl h) (fun _ _ h => h) (fun _ _ h => .inl h) (fun b i hs => Nat.lt_of_lt_of_le (hi.sb b i hs) hE.size)
        exact ⟨v, S, β, rfl, e1, e2, .v _ _ ((frz_sound hI 6 _ _ _ hr hR).of_flat hflat)⟩
       ·have hown : ownFlat h1 d1 = true := by
         rcases hc with (hc | hc) | hc
         ·exact absurd hc hp
         ·exact absurd hc hflat
         ·exact hc
        refine (hcalls (withOwn S β h) [] w vs (args_own hi hxs hrel) (hinv_nil (own_sb hi) (hi.gl.mono fun _ _ h => ⟨.inl h, rfl⟩))).mono ?_
        rintro e w1 ⟨v, S1, β1, rfl, hE, hI, hR⟩
        -- the block that came back, and nothing else
        unfold ownFlat at hown
        split at hown
        ·rename_i r0 len
         split at hown
         ·rename_i k es hes
          rw [Bool.and_eq_true, decide_eq_true_eq] at hown
          obtain ⟨hle, hall⟩ := hown
          cases hR with
          | osl _ _ _ b c k' p cap _ hb hlen hp0 hcap =>
          simp only [Nat.zero_mul] at hp0
          subst hp0
          obtain ⟨rfl, o2, o3, o4, o5, cur, e, o6, o7, o8⟩ := hI.obj r0 _ b c k' hes hb
          have hbge : w.heap.size ≤ b := by
           obtain ⟨k0, rfl⟩ := hI.kpos hes rfl hb
           rcases hE.fresh r0 b c k0 hb with g | ⟨r', c', k', g⟩
           ·exact g
           ·simp at g
          obtain ⟨e1, e2⟩ := back_from (S' := fun b' i => S b' i ∨ b' = b) (h1 := h1) hi hE (fun _ _ h => .inl h) (fun _ _ h => .inl h) (fun b' i h => h.elim .inl (fun h => .inr (h ▸ hbge)))
           (fun b' i hs => hs.elim (fun hs => Nat.lt_of_lt_of_le (hi.sb b' i hs) hE.size) (fun h => h ▸ hI.lt r0 _ b c k hes rfl hb))
          refine ⟨_, _, β, rfl, e1, e2, .v _ _ ?_⟩
          have hr' : r = .sl .plain (es.take len) := by
           simp only [frz, hes, List.drop_zero] at hr
           rw [if_pos (by omega)] at hr
           exact (Option.some.inj hr).symm
          subst hr'
          have hxl : (es.take len).length = len := by simp; omega
          have hsol : Solid k (es.take len) := by have := Solid.take_drop o5 0 len; simpa using this
          have hin : len * k ≤ cur.size := by rw [o7]; exact Nat.mul_le_mul_right _ (by omega)
          refine .sl _ b 0 cap k len _ (fun q => cur.getD q undef) hxl.symm (by decide) (fun h => by cases h) (by rw [hcap, if_neg (by decide)]; omega) (by rw [hcap, if_neg (by decide)]; omega) hsol (fun i j hi' hj => ?_) (fun i j x c' hx' hy => ?_)
          ·have := mul_lt_of (k := k) hi' hj
           refine ⟨.inr rfl, ?_⟩
           simp only [Nat.zero_add]
           rw [cell_own o6, Array.getElem?_eq_getElem (by omega)]
           simp [Array.getD, show i * k + j < cur.size by omega]
          ·have hj := lt_of_getElem? hy
           rw [(hsol i x hx').2] at hj
           have hi' := lt_of_getElem? hx'
           rw [hxl] at hi'
           have := mul_lt_of (k := k) hi' hj
           have hxf := List.all_eq_true.1 hall x (List.mem_of_getElem? hx')
           rw [List.getElem?_take, if_pos hi'] at hx'
           refine RelV.of_flat (o8 i j x c' _ hx' hy ?_) (flat_cells hxf (List.mem_of_getElem? hy))
           rw [Array.getElem?_eq_getElem (by omega)]
           simp [Array.getD, show i * k + j < cur.size by omega]
         ·cases hown
        ·rename_i fl es
         obtain ⟨e1, e2⟩ := back_from (S' := S) (h1 := h1) hi hE (fun _ _ h => .inl h) (fun _ _ h => h) (fun _ _ h => .inl h) (fun b i hs => Nat.lt_of_lt_of_le (hi.sb b i hs) hE.size)
         have he : es = [] := by simpa using hown
         subst he
         have hr' : r = .sl .plain [] := by
          simp only [frz, plainT, plainV] at hr
          exact (Option.some.inj hr).symm
         subst hr'
         exact ⟨v, S, β, rfl, e1, e2, .v _ _ ((hR.of_v.plainS).of_flat rfl)⟩
        ·cases hown
     ·cases hd
 ·split at hd
  ·rename_i k hown
   split at hd
   ·rename_i hp
    split at hd
    ·cases hd
    ·rename_i xs hxs
     split at hd
     ·cases hd
     ·rename_i d1 h1 hcall
      obtain ⟨hex, hcalls⟩ := hΓ f _ [] d1 h1 hcall
      refine ⟨hex, fun S β w vs hrel hi => ?_⟩
      refine (hcalls S [] w vs (args_freed hxs hp hrel) (hinv_nil hi.sb hi.gl)).mono ?_
      rintro e w1 ⟨v, S1, β1, rfl, hE, hI, hR⟩
      obtain ⟨S', β', f1, f2, f3⟩ := ownKeep_sound hi hE hI hR hd
      exact ⟨v, S', β', rfl, f1, f2, f3⟩
   ·cases hd
  ·split at hd
   ·exact lendD_sound hΓ f ds h d h' hd
   ·exact hΓ f ds h d h' hd
end Go.Abs
