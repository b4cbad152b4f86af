import Derived.Test.YtmoiipfomcgomaaGreatDoorAbsB
namespace Go.Abs
set_option linter.unusedVariables false
variable {DR : Prop}
theorem allM_spec {α β : Type} {f : α → Option β} : ∀ {l : List α} {ys : List β}, allM f l = some ys → ys.length = l.length ∧ ∀ (i : Nat) (x : α) (y : β), l[i]? = some x → ys[i]? = some y → f x = some y
 | [], ys, h => by simp [allM] at h; subst h; simp
 | a :: r, ys, h => by
  simp only [allM] at h
  split at h
  ·rename_i z zs hz hzs
   cases h
   obtain ⟨h1, h2⟩ := allM_spec hzs
   refine ⟨by simp [h1], fun i x y hx hy => ?_⟩
   cases i with
   | zero => simp at hx hy; subst hx; subst hy; exact hz
   | succ i => simp at hx hy; exact h2 i x y hx hy
  ·cases h
theorem RelV.plainS {S : Nat → Nat → Prop} {w : World} {v : Value} {x : V} (h : RelV S w v x) : RelV S w v (plainS x) := by
 cases h with
 | slnil fl h => exact .slnil _ (by decide)
 | slemp fl a cap h hf hm => exact .slemp _ a cap (by decide) (fun h => by cases h) hm
 | sl fl b off cap k n es vals hn h hf hc hm hk hs hr => exact .sl _ b off cap k n es vals hn (by decide) (fun h => by cases h) hc hm hk hs hr
 | bool b => exact .bool b
 | int k n => exact .int k n
 | str s => exact .str s
 | nilptr => exact .nilptr
 | nilmap => exact .nilmap
 | nilfunc => exact .nilfunc
 | fn f => exact .fn f
 | clo f captured caps q hl hp hc hs hr => exact .clo f captured caps q hl hp hc hs hr
 | agg vs cs hl hr => exact .agg vs cs hl hr
 | tuple vs cs hl hr => exact .tuple vs cs hl hr
 | ptr b off cells vals hs hr => exact .ptr b off cells vals hs hr
 | map b es ks vs hs hm hb hk hv hrk hrv => exact .map b es ks vs hs hm hb hk hv hrk hrv
theorem RelV.plainV {S : Nat → Nat → Prop} {w : World} {v : Value} {x : V} (h : RelV S w v x) : RelV S w v (plainV x) := by
 cases x with
 | agg cs =>
  cases h with
  | agg vs _ hl hr =>
  refine .agg vs _ (by simpa using hl) (fun i v x hv hx => ?_)
  simp only [List.getElem?_map] at hx
  obtain ⟨y, hy, rfl⟩ := Option.map_eq_some_iff.1 hx
  exact (hr i v y hv hy).plainS
 | sl fl es => exact h.plainS
 | _ => exact h
theorem plainS_cells (x : V) (h : x.scalar = true) : (Abs.plainS x).cells = [Abs.plainS x] ∧ (Abs.plainS x).scalar = true := by cases x <;> first | exact ⟨rfl, rfl⟩ | cases h
theorem plainV_cells {x : V} (h : x.solid = true) : (Abs.plainV x).cells = x.cells.map Abs.plainS ∧ (Abs.plainV x).solid = true := by
 cases x with
 | agg cs =>
  refine ⟨rfl, ?_⟩
  show (cs.map Abs.plainS).all V.scalar = true
  simp only [V.solid, List.all_eq_true] at h ⊢
  intro y hy
  obtain ⟨z, hz, rfl⟩ := List.mem_map.1 hy
  exact (plainS_cells z (h z hz)).2
 | tuple cs => cases h
 | _ => exact ⟨rfl, rfl⟩
theorem RelV.mapPlain {S : Nat → Nat → Prop} {w : World} {v : Value} {fl : SFlag} {es : List V} (h : RelV S w v (.sl fl es)) : RelV S w v (.sl fl (es.map Abs.plainV)) := by
 cases h with
 | slnil fl h => exact .slnil fl h
 | slemp fl a cap h hf hm => exact .slemp fl a cap h hf hm
 | sl fl b off cap k n es vals hn h hf hc hm hk hs hr =>
  refine .sl fl b off cap k n _ vals (by simpa using hn) h hf hc hm (fun i x hx => ?_) hs (fun i j x c hx hc' => ?_)
  ·rw [List.getElem?_map] at hx
   obtain ⟨y, hy, rfl⟩ := Option.map_eq_some_iff.1 hx
   obtain ⟨h1, h2⟩ := hk i y hy
   obtain ⟨h3, h4⟩ := plainV_cells h1
   exact ⟨h4, by rw [h3]; simpa using h2⟩
  ·rw [List.getElem?_map] at hx
   obtain ⟨y, hy, rfl⟩ := Option.map_eq_some_iff.1 hx
   rw [(plainV_cells (hk i y hy).1).1, List.getElem?_map] at hc'
   obtain ⟨z, hz, rfl⟩ := Option.map_eq_some_iff.1 hc'
   exact (hr i j y z hy hz).plainS
theorem RelV.plainT {S : Nat → Nat → Prop} {w : World} {v : Value} {x : V} (h : RelV S w v x) : RelV S w v (plainT x) := by
 cases x with
 | tuple cs =>
  cases h with
  | tuple vs _ hl hr =>
  refine .tuple vs _ (by simpa using hl) (fun i v x hv hx => ?_)
  simp only [List.getElem?_map] at hx
  obtain ⟨y, hy, rfl⟩ := Option.map_eq_some_iff.1 hx
  exact (hr i v y hv hy).plainV
 | _ => exact h.plainV
def withOwn (S : Nat → Nat → Prop) (β : Blocks) (h : List AObj) : Nat → Nat → Prop :=
 fun b i => S b i ∨ ∃ (r : Nat) (o : AObj) (c k : Nat), h[r]? = some o ∧ o.live = true ∧ β[r]? = some (b, c, k)
theorem keeps_own (S : Nat → Nat → Prop) (β : Blocks) (h : List AObj) (w : World) : Keeps S w (withOwn S β h) w := fun _ _ hs => ⟨.inl hs, rfl⟩
theorem frz_sound {S : Nat → Nat → Prop} {β : Blocks} {w : World} {h : List AObj} (hi : HInv S β w h) : ∀ (n : Nat) (d : D) (x : V) (v : Value), frz h n d = some x → RelD S β w v d → RelV (withOwn S β h) w v x := by
 intro n
 induction n with
 | zero => intro d x v h; simp [frz] at h
 | succ n ih =>
  intro d x v hx hv
  have list : ∀ (ds : List D) (xs : List V) (vs : Array Value), vs.size = ds.length → (∀ (i : Nat) v d, vs[i]? = some v → ds[i]? = some d → RelD S β w v d) → allM (frz h n) ds = some xs →
    vs.size = xs.length ∧ ∀ (i : Nat) v x, vs[i]? = some v → xs[i]? = some x → RelV (withOwn S β h) w v x := by
   intro ds xs vs hl hr ha
   obtain ⟨a1, a2⟩ := allM_spec ha
   refine ⟨by omega, fun i v x hv hx => ?_⟩
   have hlt := lt_of_getElem? hx
   have hd := List.getElem?_eq_getElem (l := ds) (i := i) (by omega)
   exact ih _ _ _ (a2 i _ x hd hx) (hr i v _ hv hd)
  cases d with
  | v y =>
   simp only [frz, Option.some.injEq] at hx
   subst hx
   exact (hv.of_v.mono (keeps_own S β h w)).plainT
  | agg cs =>
   simp only [frz] at hx
   obtain ⟨xs, hxs, rfl⟩ := Option.map_eq_some_iff.1 hx
   cases hv with
   | agg vs _ hl hr =>
   obtain ⟨l1, l2⟩ := list cs xs vs hl hr hxs
   exact .agg vs xs l1 l2
  | tuple cs =>
   simp only [frz] at hx
   obtain ⟨xs, hxs, rfl⟩ := Option.map_eq_some_iff.1 hx
   cases hv with
   | tuple vs _ hl hr =>
   obtain ⟨l1, l2⟩ := list cs xs vs hl hr hxs
   exact .tuple vs xs l1 l2
  | osl r off len full =>
   simp only [frz] at hx
   cases hv with
   | osl _ _ _ b c k p cap _ hb hlen hp hcap =>
   subst hp
   have hlc : len ≤ cap ∧ cap ≤ c := by rw [hcap]; split <;> omega
   split at hx
   ·rename_i k' es hes
    split at hx
    ·rename_i hle
     cases hx
     obtain ⟨rfl, o2, o3, o4, o5, cur, e, o6, o7, o8⟩ := hi.obj r _ b c k hes hb
     have hxl : ((es.drop off).take len).length = len := by simp; omega
     have hsol : Solid k' ((es.drop off).take len) := Solid.take_drop o5 off len
     have hin : off * k' + len * k' ≤ cur.size := by rw [o7, ← Nat.add_mul]; exact Nat.mul_le_mul_right _ (by omega)
     refine .sl _ b (off * k') cap k' len _ (fun q => cur.getD (off * k' + q) undef) hxl.symm (by decide) (fun h => by cases h) hlc.1 (by omega) hsol (fun i j hi' hj => ?_) (fun i j x c' hx' hy => ?_)
     ·have := mul_lt_of (k := k') hi' hj
      refine ⟨.inr ⟨r, _, c, k', hes, rfl, hb⟩, ?_⟩
      rw [cell_own o6, Array.getElem?_eq_getElem (by omega)]
      simp [Array.getD, show off * k' + (i * k' + j) < cur.size by omega]
     ·have hj := lt_of_getElem? hy
      rw [(hsol i x hx').2] at hj
      have hi' := lt_of_getElem? hx'
      rw [hxl] at hi'
      have := mul_lt_of (k := k') hi' hj
      rw [List.getElem?_take, if_pos hi', List.getElem?_drop] at hx'
      refine RelV.mono (keeps_own S β h w) (o8 (off + i) j x c' _ hx' hy ?_)
      rw [Nat.add_mul, Nat.add_assoc, Array.getElem?_eq_getElem (by omega)]
      simp [Array.getD, show off * k' + (i * k' + j) < cur.size by omega]
    ·cases hx
   ·rename_i cs hcs
    split at hx
    ·rename_i hle
     split at hx
     ·rename_i xs hxs
      split at hx
      ·rename_i hsc
       cases hx
       obtain ⟨rfl, o2, o3, cur, e, o4, o5, o6⟩ := hi.obj r _ b c k hcs hb
       obtain ⟨a1, a2⟩ := allM_spec hxs
       have hxl : xs.length = len := by rw [a1]; simp; omega
       have h1 : ∀ (i : Nat) (x : V), xs[i]? = some x → x.solid = true ∧ x.cells.length = 1 := by
        intro i x hx
        have := List.all_eq_true.1 hsc x (List.mem_of_getElem? hx)
        cases x <;> first | exact ⟨rfl, rfl⟩ | cases this
       refine .sl _ b (off * 1) cap 1 len xs (fun q => cur.getD (off + q) undef) hxl.symm (by decide) (fun h => by cases h) hlc.1 (by omega) h1 (fun i j hi' hj => ?_) (fun i j x c' hx' hy => ?_)
       ·have hj0 : j = 0 := by omega
        subst hj0
        refine ⟨.inr ⟨r, _, c, 1, hcs, rfl, hb⟩, ?_⟩
        simp only [Nat.mul_one, Nat.add_zero]
        rw [cell_own o4, Array.getElem?_eq_getElem (by omega)]
        simp [Array.getD, show off + i < cur.size by omega]
       ·have hj := lt_of_getElem? hy
        rw [(h1 i x hx').2] at hj
        have hj0 : j = 0 := by omega
        subst hj0
        have hi' := lt_of_getElem? hx'
        have hcell : x.cells = [x] := by
         have := List.all_eq_true.1 hsc x (List.mem_of_getElem? hx')
         cases x <;> first | rfl | cases this
        rw [hcell] at hy
        simp at hy
        subst hy
        have hd := List.getElem?_eq_getElem (l := (cs.drop off).take len) (i := i) (by simp; omega)
        have hf := a2 i _ _ hd hx'
        rw [List.getElem?_take, if_pos (by omega), List.getElem?_drop] at hd
        simp only [Nat.mul_one, Nat.add_zero]
        refine ih _ _ _ hf (o6 (off + i) _ _ ?_ hd)
        rw [Array.getElem?_eq_getElem (by omega)]
        simp [Array.getD, show off + i < cur.size by omega]
      ·cases hx
     ·cases hx
    ·cases hx
   ·cases hx
  | tsl t es =>
   simp only [frz, Option.some.injEq] at hx
   subst hx
   exact hv.unt.of_v.mono (keeps_own S β h w)
  | func f first cs =>
   cases first with
   | cons a b => simp [frz] at hx
   | nil =>
   simp only [frz] at hx
   obtain ⟨caps, hcaps, rfl⟩ := Option.map_eq_some_iff.1 hx
   obtain ⟨a1, a2⟩ := allM_spec hcaps
   cases hv with
   | func _ first captured _ _ hl hl' hr hr' =>
   obtain rfl : first = #[] := Array.eq_empty_of_size_eq_zero hl
   have key : ∀ i : Nat, ∃ q : Nat × Nat × List V × (Nat → Value), i < caps.length → (∀ v, captured[i]? = some v → v = .pointer (some ⟨q.1, q.2.1, none⟩)) ∧ (∀ x, caps[i]? = some x → x = .agg q.2.2.1) ∧
     (∀ j : Nat, j < q.2.2.1.length → withOwn S β h q.1 (q.2.1 + j) ∧ w.cell? ⟨q.1, q.2.1 + j, none⟩ = some (q.2.2.2 j)) ∧ ∀ (j : Nat) y, q.2.2.1[j]? = some y → RelV (withOwn S β h) w (q.2.2.2 j) y := by
    intro i
    by_cases hi' : i < caps.length
    ·have hx := List.getElem?_eq_getElem hi'
     have hd := List.getElem?_eq_getElem (l := cs) (i := i) (by omega)
     have hcv := Array.getElem?_eq_getElem (xs := captured) (i := i) (by omega)
     have hf := a2 i _ _ hd hx
     have hrel := hr' i _ _ hcv hd
     generalize caps[i] = x at hx hf
     generalize cs[i]'(by omega) = d at hd hf hrel
     generalize captured[i]'(by omega) = v at hcv hrel
     unfold frzCap at hf
     split at hf
     ·rename_i r
      split at hf
      ·rename_i ds hds
       obtain ⟨ys, hys, rfl⟩ := Option.map_eq_some_iff.1 hf
       obtain ⟨b1, b2⟩ := allM_spec hys
       cases hrel with
       | ptr _ _ b c k hb =>
       obtain ⟨rfl, o2, o3, cur, e, o4, o5, o6⟩ := hi.obj r _ b c k hds hb
       refine ⟨(b, 0, ys, fun j => cur.getD j undef), fun _ => ⟨fun v' hv' => ?_, fun x' hx' => ?_, fun j hj => ?_, fun j y hy => ?_⟩⟩
       ·rw [hcv] at hv'; exact (Option.some.inj hv').symm
       ·rw [hx] at hx'; exact (Option.some.inj hx').symm
       ·have hj' : j < ys.length := hj
        refine ⟨.inr ⟨r, _, c, 1, hds, rfl, hb⟩, ?_⟩
        simp only [Nat.zero_add]
        rw [cell_own o4, Array.getElem?_eq_getElem (by omega)]
        simp [Array.getD, show j < cur.size by omega]
       ·have hj' := lt_of_getElem? hy
        have hj' : j < ys.length := hj'
        have hdj := List.getElem?_eq_getElem (l := ds) (i := j) (by omega)
        refine ih _ _ _ (b2 j _ y hdj hy) (o6 j _ _ ?_ hdj)
        rw [Array.getElem?_eq_getElem (by omega)]
        simp [Array.getD, show j < cur.size by omega]
      ·cases hf
     ·rename_i ys
      cases hf
      cases hrel with
      | vptr b off _ vals hs hr =>
      refine ⟨(b, off, ys, vals), fun _ => ⟨fun v' hv' => ?_, fun x' hx' => ?_, fun j hj => ⟨.inl (hs j hj).1, (hs j hj).2⟩, fun j y hy => (hr j y hy).mono (keeps_own S β h w)⟩⟩
      ·rw [hcv] at hv'; exact (Option.some.inj hv').symm
      ·rw [hx] at hx'; exact (Option.some.inj hx').symm
     ·cases hf
    ·exact ⟨(0, 0, [], fun _ => undef), fun hlt => absurd hlt hi'⟩
   obtain ⟨q, hq⟩ := Classical.axiomOfChoice key
   exact .clo f captured caps q (by omega) (fun i v hv => (hq i (by have := (Array.getElem?_eq_some_iff.1 hv).1; omega)).1 v hv) (fun i x hx => (hq i (lt_of_getElem? hx)).2.1 x hx) (fun i j hi hj => (hq i hi).2.2.1 j hj) (fun i j y hi hy => (hq i hi).2.2.2 j y hy)
  | vptr cs =>
   simp only [frz, Option.some.injEq] at hx
   subst hx
   cases hv with
   | vptr b off _ vals hs hr => exact .ptr b off _ vals (fun j hj => ⟨.inl (hs j hj).1, (hs j hj).2⟩) (fun j x hx => (hr j x hx).mono (keeps_own S β h w))
  | map r =>
   simp only [frz] at hx
   split at hx
   ·rename_i ks vs ho
    obtain ⟨xs, hxs, rfl⟩ := Option.map_eq_some_iff.1 hx
    obtain ⟨a1, a2⟩ := allM_spec hxs
    cases hv with
    | map _ b c k hb =>
    obtain ⟨o1, o2, es, o3, o4, o5, o6, o7⟩ := hi.obj r _ b c k ho hb
    refine .map b es ks xs (.inr ⟨r, _, c, k, ho, rfl, hb⟩) (mapAt_of o3) o4 o5 (by omega) (fun i e x he hx => (o6 i e x he hx).mono (keeps_own S β h w)) (fun i e x he hx => ?_)
    have hlt := lt_of_getElem? hx
    have hd := List.getElem?_eq_getElem (l := vs) (i := i) (by omega)
    exact ih _ _ _ (a2 i _ x hd hx) (o7 i e _ he hd)
   ·cases hx
  | ptr r off =>
   cases off with
   | succ off => simp [frz] at hx
   | zero =>
   simp only [frz] at hx
   split at hx
   ·rename_i cs ho
    obtain ⟨xs, hxs, rfl⟩ := Option.map_eq_some_iff.1 hx
    obtain ⟨a1, a2⟩ := allM_spec hxs
    cases hv with
    | ptr _ _ b c k hb =>
    obtain ⟨rfl, o2, o3, cur, e, o4, o5, o6⟩ := hi.obj r _ b c k ho hb
    refine .ptr b 0 xs (fun j => cur.getD j undef) (fun j hj => ⟨.inr ⟨r, _, c, 1, ho, rfl, hb⟩, ?_⟩) (fun j x hx => ?_)
    ·rw [Nat.zero_add, cell_own o4, Array.getElem?_eq_getElem (by omega)]
     simp [Array.getD, show j < cur.size by omega]
    ·have hj := lt_of_getElem? hx
     have hd := List.getElem?_eq_getElem (l := cs) (i := j) (by omega)
     refine ih _ _ _ (a2 j _ x hd hx) (o6 j _ _ ?_ hd)
     rw [Array.getElem?_eq_getElem (by omega)]
     simp [Array.getD, show j < cur.size by omega]
   ·cases hx
  | _ => simp [frz] at hx
theorem flat_one {S S' : Nat → Nat → Prop} {w : World} {v : Value} {x : V} (h : RelV S w v x) (hf : x.flat = true) (hn : ∀ cs, x ≠ .agg cs ∧ x ≠ .tuple cs) : RelV S' w v x := by
 cases h with
 | bool b => exact .bool b
 | int k n => exact .int k n
 | str s => exact .str s
 | nilptr => exact .nilptr
 | nilmap => exact .nilmap
 | nilfunc => exact .nilfunc
 | fn f => exact .fn f
 | clo f captured caps q hl hp hc hs hr => cases hf
 | ptr b off cells vals hs hr => cases hf
 | map b es ks vs hs hm hb hk hv hrk hrv => cases hf
 | slnil fl h => exact .slnil fl h
 | slemp fl a cap h hf0 hm => exact .slemp fl a cap h hf0 hm
 | sl fl b off cap k n es vals hn' h hf' hc hm hk hs hr =>
  have : es = [] := by simpa [V.flat] using hf
  subst this
  subst hn'
  exact .sl fl b off cap k 0 [] vals rfl h hf' hc hm hk (fun i j hi => by simp at hi) (fun i j x c hx => by simp at hx)
 | agg vs cs hl hr => exact absurd rfl (hn cs).1
 | tuple vs cs hl hr => exact absurd rfl (hn cs).2
theorem RelV.of_flat {S S' : Nat → Nat → Prop} {w : World} {v : Value} {x : V} (h : RelV S w v x) (hf : x.flat = true) : RelV S' w v x := by
 have inner : ∀ (v : Value) (y : V), RelV S w v y → (match y with
   | .bool _ | .int _ _ | .str _ | .nilptr | .nilmap | .nilfunc | .fn _ => true
   | .sl _ es => es.isEmpty
   | _ => false) = true → RelV S' w v y := by
  intro v y hv hy
  have hne : ∀ cs, y ≠ .agg cs ∧ y ≠ .tuple cs := by
   intro cs
   constructor
   ·intro e; subst e; cases hy
   ·intro e; subst e; cases hy
  refine flat_one hv ?_ hne
  cases y <;> first | rfl | exact hy | cases hy
 have outer : ∀ (v : Value) (y : V), RelV S w v y → (match y with
   | .bool _ | .int _ _ | .str _ | .nilptr | .nilmap | .nilfunc | .fn _ => true
   | .sl _ es => es.isEmpty
   | .agg cs => cs.all fun
    | .bool _ | .int _ _ | .str _ | .nilptr | .nilmap | .nilfunc | .fn _ => true
    | .sl _ es => es.isEmpty
    | _ => false
   | _ => false) = true → RelV S' w v y := by
  intro v y hv hy
  by_cases ha : ∃ cs, y = .agg cs
  ·obtain ⟨cs, rfl⟩ := ha
   cases hv with
   | agg vs _ hl hr =>
   simp only [List.all_eq_true] at hy
   exact .agg vs cs hl (fun i v x hv hx => inner v x (hr i v x hv hx) (hy x (List.mem_of_getElem? hx)))
  ·refine inner v y hv ?_
   cases y <;> first | exact hy | exact absurd ⟨_, rfl⟩ ha
 by_cases ha : ∃ cs, x = .agg cs
 ·obtain ⟨cs, rfl⟩ := ha
  cases h with
  | agg vs _ hl hr =>
  simp only [V.flat, List.all_eq_true] at hf
  exact .agg vs cs hl (fun i v x hv hx => outer v x (hr i v x hv hx) (hf x (List.mem_of_getElem? hx)))
 ·by_cases hb : ∃ cs, x = .tuple cs
  ·obtain ⟨cs, rfl⟩ := hb
   cases h with
   | tuple vs _ hl hr =>
   simp only [V.flat, List.all_eq_true] at hf
   exact .tuple vs cs hl (fun i v x hv hx => outer v x (hr i v x hv hx) (hf x (List.mem_of_getElem? hx)))
  ·exact flat_one h hf (fun cs => ⟨fun e => ha ⟨cs, e⟩, fun e => hb ⟨cs, e⟩⟩)
def RelL (S : Nat → Nat → Prop) (β : Blocks) (w : World) (vs : Array Value) (ds : List D) : Prop := vs.size = ds.length ∧ ∀ (i : Nat) (v : Value) (d : D), vs[i]? = some v → ds[i]? = some d → RelD S β w v d
def Is (P : Program) (f : FuncId) : Prop := ∃ fn, P.funcs[f]? = some fn ∧ fn.body.isSome = true ∧ (fn.name == "runtime.NumGoroutine") = false
def CSound (DR : Prop) (P : Program) (Γ : Calling) : Prop := ∀ f ds h d h', Γ f ds h = some (d, h') → Is P f ∧ ∀ S β w vs, RelL S β w vs ds → HInv S β w h →
 Calls P f vs w fun e w' => ∃ v S' β', e = .returned v ∧ Ext DR S β w S' β' w' ∧ HInv S' β' w' h' ∧ RelD S' β' w' v d
theorem hinv_nil {S : Nat → Nat → Prop} {w : World} (hs : ∀ b i, S b i → b < w.heap.size) (hg : Glob S w) : HInv S [] w [] :=
 ⟨rfl, fun r o b c k h => by simp at h, fun r o b c k h => by simp at h, fun r r' o o' b c k c' k' h => by simp at h, fun r o b c k i h => by simp at h, hs, hg, fun r b c k h => by simp at h⟩
theorem own_sb {S : Nat → Nat → Prop} {β : Blocks} {w : World} {h : List AObj} (hi : HInv S β w h) : ∀ b i, withOwn S β h b i → b < w.heap.size := by
 intro b i hs
 rcases hs with hs | ⟨r, o, c, k, h1, h2, h3⟩
 ·exact hi.sb b i hs
 ·exact hi.lt r o b c k h1 h2 h3
theorem back_from {S Sc S1 S' : Nat → Nat → Prop} {β β1 : Blocks} {w w1 : World} {h h1 : List AObj} (hi : HInv S β w h) (hE : Ext DR Sc [] w S1 β1 w1) (hSc : ∀ b i, S b i → Sc b i)
  (hS' : ∀ b i, S b i → S' b i) (hin : ∀ b i, S' b i → S b i ∨ w.heap.size ≤ b) (hlt : ∀ b i, S' b i → b < w1.heap.size) : Ext DR S β w S' β w1 ∧ HInv S' β w1 h := by
 have hk : Keeps S w S' w1 := fun b i hs => ⟨hS' b i hs, (hE.keeps b i (hSc b i hs)).2⟩
 have hold : ∀ b, b < w.heap.size → w1.heap[b]? = w.heap[b]? := fun b hb => hE.rest b hb (fun r c k hr => by simp at hr)
 constructor
 ·exact ⟨hk, fun _ _ h => h, hE.size, fun b hb _ => hold b hb, fun r b c k hr => .inr ⟨r, c, k, hr⟩, hE.os, hE.tape, hE.output, hE.drawn, fun b i hs => by
   rcases hin b i hs with h | h
   ·exact .inl h
   ·exact .inr (.inl h)⟩
 ·refine ⟨hi.len, fun r o b c k g1 g2 => (hi.obj r o b c k g1 g2).mono hk (fun _ _ h => h) (fun hl => hold b (hi.lt r o b c k g1 hl g2)), fun r o b c k g1 hl g => Nat.lt_of_lt_of_le (hi.lt r o b c k g1 hl g) hE.size, hi.inj, fun r o b c k i g1 l1 g2 hs => ?_, hlt, hi.gl.mono hk, fun r b c k g => Nat.lt_of_lt_of_le (hi.dl r b c k g) hE.size⟩
  rcases hin b i hs with h | h
  ·exact hi.own r o b c k i g1 l1 g2 h
  ·have := hi.lt r o b c k g1 l1 g2; omega
theorem freed_frz {S : Nat → Nat → Prop} {w : World} {β : Blocks} {h : List AObj} {v : Value} {d d' : D} (hd : d.freed = true) (ha : argP h d = some d') (hr : RelD S β w v d) : RelD S [] w v d' := by
 cases d with
 | v x =>
  simp only [argP, frz, Option.map_some, Option.some.injEq] at ha
  subst ha
  exact .v _ _ hr.of_v.plainT
 | tsl t es =>
  simp only [argP, frz, Option.map_some, Option.some.injEq] at ha
  subst ha
  exact .v _ _ hr.unt.of_v
 | vptr cs =>
  simp only [argP, Option.some.injEq] at ha
  subst ha
  cases hr with
  | vptr b off _ vals hs hr => exact .vptr b off cs vals hs hr
 | _ => cases hd
theorem argP_own {S : Nat → Nat → Prop} {w : World} {β : Blocks} {h : List AObj} (hi : HInv S β w h) {v : Value} {d d' : D} (ha : argP h d = some d') (hr : RelD S β w v d) : RelD (withOwn S β h) [] w v d' := by
 unfold argP at ha
 split at ha
 ·cases ha
  cases hr with
  | vptr b off _ vals hs hr => exact .vptr b off _ vals (fun j hj => ⟨.inl (hs j hj).1, (hs j hj).2⟩) (fun j x hx => (hr j x hx).mono (keeps_own S β h w))
 ·obtain ⟨x, hx, rfl⟩ := Option.map_eq_some_iff.1 ha
  exact .v _ _ (frz_sound hi 6 _ _ _ hx hr)
theorem args_own {S : Nat → Nat → Prop} {β : Blocks} {w : World} {h : List AObj} (hi : HInv S β w h) {ds xs : List D} {vs : Array Value} (hx : allM (argP h) ds = some xs) (hr : RelL S β w vs ds) : RelL (withOwn S β h) [] w vs xs := by
 obtain ⟨a1, a2⟩ := allM_spec hx
 refine ⟨by simp [a1, hr.1], fun i v d hv hd => ?_⟩
 have hlt := lt_of_getElem? hd
 have hd' := List.getElem?_eq_getElem (l := ds) (i := i) (by omega)
 exact argP_own hi (a2 i _ d hd' hd) (hr.2 i v _ hv hd')
theorem args_freed {S : Nat → Nat → Prop} {β : Blocks} {w : World} {h : List AObj} {ds xs : List D} {vs : Array Value} (hx : allM (argP h) ds = some xs) (hp : ds.all D.freed = true) (hr : RelL S β w vs ds) : RelL S [] w vs xs := by
 obtain ⟨a1, a2⟩ := allM_spec hx
 refine ⟨by simpa [a1] using hr.1, fun i v d hv hd => ?_⟩
 have hlt := lt_of_getElem? hd
 have hd' := List.getElem?_eq_getElem (l := ds) (i := i) (by omega)
 exact freed_frz (List.all_eq_true.1 hp _ (List.mem_of_getElem? hd')) (a2 i _ d hd' hd) (hr.2 i v _ hv hd')
theorem flat_cells {x y : V} (hx : x.flat = true) (hy : y ∈ x.cells) : y.flat = true := by
 cases x with
 | agg cs =>
  simp only [V.flat, List.all_eq_true] at hx
  have := hx y hy
  cases y <;> first | rfl | exact this | skip
  ·rename_i ds'
   simp only [V.flat, List.all_eq_true] at this ⊢
   intro z hz
   have := this z hz
   cases z <;> first | rfl | exact this | cases this
  ·cases this
 | _ => simp [V.cells] at hy; subst hy; exact hx
theorem isV_spec {d : D} (h : d.isV = true) : ∃ x, d = .v x := by
 cases d <;> first | exact ⟨_, rfl⟩ | cases h
theorem RelD.reV {S : Nat → Nat → Prop} {β β' : Blocks} {w : World} {v : Value} {d : D} (h : RelD S β w v d) (hd : d.isV = true) : RelD S β' w v d := by
 obtain ⟨x, rfl⟩ := isV_spec hd
 exact .v _ _ h.of_v
theorem HInv.keepTok {S S1 : Nat → Nat → Prop} {β β1 : Blocks} {w w1 : World} {h h1 : List AObj} (hi : HInv S β w h) (e1 : Ext DR S β w S1 β w1) (e2 : HInv S1 β w1 h) (hI : HInv S1 β1 w1 h1) {r b c k a n : Nat} (hr : h1[r]? = some (.tok a n)) (hb : β1[r]? = some (b, c, k)) (hge : w.heap.size ≤ b) :
  Ext DR S β w S1 (β ++ [(b, c, k)]) w1 ∧ HInv S1 (β ++ [(b, c, k)]) w1 (h ++ [.tok a n]) := by
 have hlen := hi.len
 have hp : ∀ (q : Nat) x, β[q]? = some x → (β ++ [(b, c, k)])[q]? = some x := fun q x hx => (getElem?_snoc _ _ _ _).2 (.inl ⟨hx, lt_of_getElem? hx⟩)
 have old : ∀ (q : Nat) (o : AObj) x, (h ++ [.tok a n])[q]? = some o → (β ++ [(b, c, k)])[q]? = some x → (h[q]? = some o ∧ β[q]? = some x) ∨ (q = h.length ∧ o = .tok a n ∧ x = (b, c, k)) := by
  intro q o x g1 g2
  rcases (getElem?_snoc _ _ _ _).1 g1 with ⟨g1, j1⟩ | ⟨j1, g1⟩ <;> rcases (getElem?_snoc _ _ _ _).1 g2 with ⟨g2, j2⟩ | ⟨j2, g2⟩
  ·exact .inl ⟨g1, g2⟩
  ·omega
  ·omega
  ·exact .inr ⟨j1, g1.symm, g2.symm⟩
 have hnew := hI.obj r _ b c k hr hb
 have hlt := hI.lt r _ b c k hr rfl hb
 constructor
 ·refine ⟨e1.keeps, hp, e1.size, e1.rest, fun q b' c' k' hq => ?_, e1.os, e1.tape, e1.output, e1.drawn, e1.stay⟩
  rcases (getElem?_snoc _ _ _ _).1 hq with ⟨g, _⟩ | ⟨_, g⟩
  ·exact e1.fresh q b' c' k' g
  ·cases g; exact .inl hge
 ·refine ⟨by simp [hlen], fun q o b' c' k' g1 g2 => ?_, fun q o b' c' k' g1 l1 g2 => ?_, fun q1 q2 o1 o2 b' c1 k1 c2 k2 g1 l1 g2 l2 g3 g4 => ?_, fun q o b' c' k' i g1 l1 g2 => ?_, hI.sb, e2.gl, fun q b' c' k' hq => ?_⟩
  ·rcases old q o _ g1 g2 with ⟨g1, g2⟩ | ⟨rfl, rfl, g⟩
   ·exact (e2.obj q o b' c' k' g1 g2).mono (fun _ _ h => ⟨h, rfl⟩) hp (fun _ => rfl)
   ·cases g; exact hnew
  ·rcases old q o _ g1 g2 with ⟨g1, g2⟩ | ⟨rfl, rfl, g⟩
   ·exact e2.lt q o b' c' k' g1 l1 g2
   ·cases g; exact hlt
  ·rcases old q1 o1 _ g1 g3 with ⟨g1, g3⟩ | ⟨rfl, rfl, g⟩ <;> rcases old q2 o2 _ g2 g4 with ⟨g2, g4⟩ | ⟨rfl, rfl, g'⟩
   ·exact e2.inj q1 q2 o1 o2 b' c1 k1 c2 k2 g1 l1 g2 l2 g3 g4
   ·cases g'
    have := hi.lt q1 o1 b c1 k1 g1 l1 g3
    omega
   ·cases g
    have := hi.lt q2 o2 b c2 k2 g2 l2 g4
    omega
   ·rfl
  ·rcases old q o _ g1 g2 with ⟨g1, g2⟩ | ⟨rfl, rfl, g⟩
   ·exact e2.own q o b' c' k' i g1 l1 g2
   ·cases g; exact hI.own r _ b c k i hr rfl hb
  ·rcases (getElem?_snoc _ _ _ _).1 hq with ⟨g, _⟩ | ⟨_, g⟩
   ·exact e2.dl q b' c' k' g
   ·cases g; exact hlt
theorem ownKeep_sound {S S1 : Nat → Nat → Prop} {β β1 : Blocks} {w w1 : World} {h h1 h' : List AObj} {k : Nat} {d d' : D} {v : Value} (hi : HInv S β w h) (hE : Ext DR S [] w S1 β1 w1) (hI : HInv S1 β1 w1 h1) (hR : RelD S1 β1 w1 v d) (hk : ownKeep k d h1 h = some (d', h')) :
  ∃ S' β', Ext DR S β w S' β' w1 ∧ HInv S' β' w1 h' ∧ RelD S' β' w1 v d' := by
 have hin : ∀ b i, S1 b i → S b i ∨ w.heap.size ≤ b := by
  intro b i hs
  rcases hE.stay b i hs with g | g | ⟨r, c, k, g⟩
  ·exact .inl g
  ·exact .inr g
  ·simp at g
 obtain ⟨e1, e2⟩ := back_from (S' := S1) (h1 := h1) hi hE (fun _ _ h => h) (fun b i hs => (hE.keeps b i hs).1) hin hI.sb
 obtain ⟨p1, p2⟩ := e2.pad (DR := DR)
 unfold ownKeep at hk
 split at hk
 ·rename_i ds
  cases hR with
  | tuple vs cs hl hr =>
  split at hk
  ·rename_i r es hds
   split at hk
   ·rename_i a n ho
    split at hk
    ·rename_i hall
     cases hk
     rw [List.all_eq_true] at hall
     have hkl := lt_of_getElem? hds
     obtain ⟨v0, hv0⟩ : ∃ v0, vs[k]? = some v0 := ⟨vs[k]'(by omega), Array.getElem?_eq_getElem (by omega)⟩
     have hr0 := hr k v0 _ hv0 hds
     have hrl : r < β1.length := by rw [hI.len]; exact lt_of_getElem? ho
     obtain ⟨⟨b, c, k1⟩, hb⟩ : ∃ x, β1[r]? = some x := ⟨_, List.getElem?_eq_getElem hrl⟩
     have hge : w.heap.size ≤ b := by
      obtain ⟨k0, rfl⟩ := hI.kpos ho rfl hb
      rcases hE.fresh r b c k0 hb with g | ⟨r', c', k', g⟩
      ·exact g
      ·simp at g
     obtain ⟨f1, f2⟩ := hi.keepTok e1 e2 hI ho hb hge
     refine ⟨S1, _, f1, f2, .tuple vs _ (by simpa using hl) fun i v x g1 g2 => ?_⟩
     rw [List.getElem?_set] at g2
     split at g2
     ·rename_i e
      subst e
      cases g2
      have := hr k v _ g1 hds
      cases this with
      | tsl _ b' c' k' n' _ hb' hn hs hv =>
       rw [hb] at hb'; cases hb'
       refine .tsl _ b c k1 n' es ?_ hn hs hv
       rw [← hi.len]; simp
     ·rename_i hne
      have hx : x.isV = true := hall x (List.mem_of_getElem? (i := i) (by rw [List.getElem?_set_ne hne]; exact g2))
      exact (hr i v x g1 g2).reV hx
    ·cases hk
   ·cases hk
  ·split at hk
   ·rename_i hall
    cases hk
    rw [List.all_eq_true] at hall
    exact ⟨S1, _, e1.trans p1, p2, .tuple vs _ hl fun i v x g1 g2 => (hr i v x g1 g2).reV (hall x (List.mem_of_getElem? g2))⟩
   ·cases hk
  ·cases hk
 ·rename_i xs
  cases hk
  have hv := hR.of_v
  cases hv with
  | tuple vs cs hl hr =>
   refine ⟨S1, _, e1.trans p1, p2, .tuple vs _ (by simpa using hl) fun i v x g1 g2 => ?_⟩
   rw [List.getElem?_map] at g2
   obtain ⟨y, hy, rfl⟩ := Option.map_eq_some_iff.1 g2
   exact .v _ _ (hr i v y g1 hy)
 ·cases hk
def lentOk : AObj → Bool
 | .cells cs => cs.all D.isV
 | .tok _ _ => true
 | _ => false
structure Lent (h : List AObj) (refs : List (Option Nat)) : Prop where
 ok : ∀ (j q : Nat), refs[j]? = some (some q) → ∃ o, h[q]? = some o ∧ lentOk o = true
 nd : ∀ (j j' q : Nat), refs[j]? = some (some q) → refs[j']? = some (some q) → j = j'
def blOf (β : Blocks) (w : World) (refs : List (Option Nat)) : Blocks := refs.map fun
 | none => (w.heap.size, 0, 0)
 | some q => β.getD q (w.heap.size, 0, 0)
theorem Lent.pad {h : List AObj} {refs : List (Option Nat)} (hL : Lent h refs) : Lent h (refs ++ [none]) := by
 refine ⟨fun j q' hj => ?_, fun j j' q' hj hj' => ?_⟩
 ·rcases (getElem?_snoc _ _ _ _).1 hj with ⟨g, _⟩ | ⟨_, g⟩
  ·exact hL.ok j q' g
  ·cases g
 ·rcases (getElem?_snoc _ _ _ _).1 hj with ⟨g, _⟩ | ⟨e, g⟩ <;> rcases (getElem?_snoc _ _ _ _).1 hj' with ⟨g', _⟩ | ⟨e', g'⟩
  ·exact hL.nd j j' q' g g'
  ·cases g'
  ·cases g
  ·cases g
section
variable {S : Nat → Nat → Prop} {β : Blocks} {w : World} {h : List AObj} {refs : List (Option Nat)}
theorem Lent.bl (hi : HInv S β w h) (hL : Lent h refs) {j q : Nat} (hj : refs[j]? = some (some q)) : ∃ b c k, β[q]? = some (b, c, k) ∧ (blOf β w refs)[j]? = some (b, c, k) := by
 obtain ⟨o, h1, _⟩ := hL.ok j q hj
 have hq : q < β.length := by rw [hi.len]; exact lt_of_getElem? h1
 obtain ⟨⟨b, c, k⟩, hb'⟩ : ∃ x, β[q]? = some x := ⟨_, List.getElem?_eq_getElem hq⟩
 refine ⟨b, c, k, hb', ?_⟩
 unfold blOf
 rw [List.getElem?_map, hj]
 simp [List.getD, hb']
theorem Lent.lb (hi : HInv S β w h) (hL : Lent h refs) {j b c k : Nat} (hj : (blOf β w refs)[j]? = some (b, c, k)) : (refs[j]? = some none ∧ k = 0) ∨ ∃ q, refs[j]? = some (some q) ∧ β[q]? = some (b, c, k) := by
 have hj' := hj
 unfold blOf at hj
 rw [List.getElem?_map] at hj
 obtain ⟨x, hx, e⟩ := Option.map_eq_some_iff.1 hj
 cases x with
 | none => cases e; exact .inl ⟨hx, rfl⟩
 | some q =>
  obtain ⟨b', c', k', g1, g2⟩ := hL.bl hi hx
  rw [hj'] at g2
  cases g2
  exact .inr ⟨q, hx, g1⟩
end
theorem callD_sound {P : Program} {E : Env} {Γ : Calling} (hΓ : CSound DR P Γ) : CSound DR P (callD E Γ) := by
 intro f ds h d h' hd
 unfold callD at hd
 split at hd
 ·split at hd
  ·cases hd
  ·rename_i xs hxs
   split at hd
   ·cases hd
   ·rename_i d1 h1 hcall
    split at hd
    ·cases hd
    ·rename_i r hr
     split at hd
     ·rename_i hc
      cases hd
      obtain ⟨hex, hcalls⟩ := hΓ f _ [] d1 h1 hcall
      refine ⟨hex, fun S β w vs hrel hi => ?_⟩
      rw [Bool.or_eq_true, Bool.or_eq_true] at hc
      by_cases hp : ds.all D.freed = true
      ·refine (hcalls S [] w vs (args_freed hxs hp hrel) (hinv_nil hi.sb hi.gl)).mono ?_
       rintro e w1 ⟨v, S1, β1, rfl, hE, hI, hR⟩
       have hin : ∀ b i, withOwn S1 β1 h1 b i → S b i ∨ w.heap.size ≤ b := by
        intro b i hs
        rcases hs with hs | ⟨r, o, c, k, g1, g2, g3⟩
        ·rcases hE.stay b i hs with g | g | ⟨r, c, k, g⟩
         ·exact .inl g
         ·exact .inr g
         ·simp at g
        ·obtain ⟨k0, rfl⟩ := hI.kpos g1 g2 g3
         rcases hE.fresh r b c k0 g3 with g | ⟨r', c', k', g⟩
         ·exact .inr g
         ·simp at g
       obtain ⟨e1, e2⟩ := back_from (S' := withOwn S1 β1 h1) (h1 := h1) hi hE (fun _ _ h => h) (fun b i hs => .inl (hE.keeps b i hs).1) hin (own_sb hI)
       exact ⟨v, _, β, rfl, e1, e2, .v _ _ (frz_sound hI 6 _ _ _ hr hR)⟩
      ·by_cases hflat : r.flat = true
       ·refine (hcalls (withOwn S β h) [] w vs (args_own hi hxs hrel) (hinv_nil (own_sb hi) (hi.gl.mono fun _ _ h => ⟨.inl h, rfl⟩))).mono ?_
        rintro e w1 ⟨v, S1, β1, rfl, hE, hI, hR⟩
        obtain ⟨e1, e2⟩ := back_from (S' := S) (h1 := h1) hi hE (fun _ _ h => .inl h) (fun _ _ h => h) (fun _ _ h => .inl h) (fun b i hs => Nat.lt_of_lt_of_le (hi.sb b i hs) hE.size)
        exact ⟨v, S, β, rfl, e1, e2, .v _ _ ((frz_sound hI 6 _ _ _ hr hR).of_flat hflat)⟩
       ·have hown : ownFlat h1 d1 = true := by
         rcases hc with (hc | hc) | hc
         ·exact absurd hc hp
         ·exact absurd hc hflat
         ·exact hc
        refine (hcalls (withOwn S β h) [] w vs (args_own hi hxs hrel) (hinv_nil (own_sb hi) (hi.gl.mono fun _ _ h => ⟨.inl h, rfl⟩))).mono ?_
        rintro e w1 ⟨v, S1, β1, rfl, hE, hI, hR⟩
        -- the block that came back, and nothing else
        unfold ownFlat at hown
        split at hown
        ·rename_i r0 len
         split at hown
         ·rename_i k es hes
          rw [Bool.and_eq_true, decide_eq_true_eq] at hown
          obtain ⟨hle, hall⟩ := hown
          cases hR with
          | osl _ _ _ b c k' p cap _ hb hlen hp0 hcap =>
          simp only [Nat.zero_mul] at hp0
          subst hp0
          obtain ⟨rfl, o2, o3, o4, o5, cur, e, o6, o7, o8⟩ := hI.obj r0 _ b c k' hes hb
          have hbge : w.heap.size ≤ b := by
           obtain ⟨k0, rfl⟩ := hI.kpos hes rfl hb
           rcases hE.fresh r0 b c k0 hb with g | ⟨r', c', k', g⟩
           ·exact g
           ·simp at g
          obtain ⟨e1, e2⟩ := back_from (S' := fun b' i => S b' i ∨ b' = b) (h1 := h1) hi hE (fun _ _ h => .inl h) (fun _ _ h => .inl h) (fun b' i h => h.elim .inl (fun h => .inr (h ▸ hbge)))
           (fun b' i hs => hs.elim (fun hs => Nat.lt_of_lt_of_le (hi.sb b' i hs) hE.size) (fun h => h ▸ hI.lt r0 _ b c k hes rfl hb))
          refine ⟨_, _, β, rfl, e1, e2, .v _ _ ?_⟩
          have hr' : r = .sl .plain (es.take len) := by
           simp only [frz, hes, List.drop_zero] at hr
           rw [if_pos (by omega)] at hr
           exact (Option.some.inj hr).symm
          subst hr'
          have hxl : (es.take len).length = len := by simp; omega
          have hsol : Solid k (es.take len) := by have := Solid.take_drop o5 0 len; simpa using this
          have hin : len * k ≤ cur.size := by rw [o7]; exact Nat.mul_le_mul_right _ (by omega)
          refine .sl _ b 0 cap k len _ (fun q => cur.getD q undef) hxl.symm (by decide) (fun h => by cases h) (by rw [hcap, if_neg (by decide)]; omega) (by rw [hcap, if_neg (by decide)]; omega) hsol (fun i j hi' hj => ?_) (fun i j x c' hx' hy => ?_)
          ·have := mul_lt_of (k := k) hi' hj
           refine ⟨.inr rfl, ?_⟩
           simp only [Nat.zero_add]
           rw [cell_own o6, Array.getElem?_eq_getElem (by omega)]
           simp [Array.getD, show i * k + j < cur.size by omega]
          ·have hj := lt_of_getElem? hy
           rw [(hsol i x hx').2] at hj
           have hi' := lt_of_getElem? hx'
           rw [hxl] at hi'
           have := mul_lt_of (k := k) hi' hj
           have hxf := List.all_eq_true.1 hall x (List.mem_of_getElem? hx')
           rw [List.getElem?_take, if_pos hi'] at hx'
           refine RelV.of_flat (o8 i j x c' _ hx' hy ?_) (flat_cells hxf (List.mem_of_getElem? hy))
           rw [Array.getElem?_eq_getElem (by omega)]
           simp [Array.getD, show i * k + j < cur.size by omega]
         ·cases hown
        ·rename_i fl es
         obtain ⟨e1, e2⟩ := back_from (S' := S) (h1 := h1) hi hE (fun _ _ h => .inl h) (fun _ _ h => h) (fun _ _ h => .inl h) (fun b i hs => Nat.lt_of_lt_of_le (hi.sb b i hs) hE.size)
         have he : es = [] := by simpa using hown
         subst he
         have hr' : r = .sl .plain [] := by
          simp only [frz, plainT, plainV] at hr
          exact (Option.some.inj hr).symm
         subst hr'
         exact ⟨v, S, β, rfl, e1, e2, .v _ _ ((hR.of_v.plainS).of_flat rfl)⟩
        ·cases hown
     ·cases hd
 ·split at hd
  ·rename_i k hown
   split at hd
   ·rename_i hp
    split at hd
    ·cases hd
    ·rename_i xs hxs
     split at hd
     ·cases hd
     ·rename_i d1 h1 hcall
      obtain ⟨hex, hcalls⟩ := hΓ f _ [] d1 h1 hcall
      refine ⟨hex, fun S β w vs hrel hi => ?_⟩
      refine (hcalls S [] w vs (args_freed hxs hp hrel) (hinv_nil hi.sb hi.gl)).mono ?_
      rintro e w1 ⟨v, S1, β1, rfl, hE, hI, hR⟩
      obtain ⟨S', β', f1, f2, f3⟩ := ownKeep_sound hi hE hI hR hd
      exact ⟨v, S', β', rfl, f1, f2, f3⟩
   ·cases hd
  ·exact hΓ f ds h d h' hd
end Go.Abs
