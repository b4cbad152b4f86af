import Derived.Test.YtkmmaelmdioleaaGreatDoorAbsI
namespace Go.Abs
set_option linter.unusedVariables false
set_option linter.unusedSimpArgs false
set_option linter.unnecessarySimpa false
variable {DR : Prop}
def swL (L r : Nat) : Nat := if r = L then L + 1 else if r = L + 1 then L else r
theorem swL_sw (L r : Nat) : swL L (swL L r) = r := by
 by_cases h1 : r = L
 ·subst h1; simp [swL]
 ·by_cases h2 : r = L + 1
  ·subst h2; simp [swL]
  ·simp [swL, h1, h2]
theorem swL_old {L r : Nat} (h : r < L) : swL L r = r := by unfold swL; rw [if_neg (by omega), if_neg (by omega)]
theorem sw_get {α : Type} (l : List α) (p q : α) (r : Nat) : (l ++ [q, p])[r]? = (l ++ [p, q])[swL l.length r]? := by
 unfold swL
 split
 ·rename_i h; subst h; simp
 ·split
  ·rename_i h1 h2; subst h2; simp
  ·rename_i h1 h2
   rw [List.getElem?_append, List.getElem?_append]
   split
   ·rfl
   ·rename_i h3
    rw [List.getElem?_eq_none (by simp; omega), List.getElem?_eq_none (by simp; omega)]
theorem last2 {α : Type} : ∀ (l : List α) (L : Nat), l.length = L + 2 → ∃ (m : List α) (p q : α), l = m ++ [p, q] ∧ m.length = L
 | l, L, h => by
  refine ⟨l.take L, l[L]'(by omega), l[L + 1]'(by omega), ?_, by simp; omega⟩
  refine List.ext_getElem? fun r => ?_
  rw [List.getElem?_append]
  have ht : (l.take L).length = L := by simp; omega
  split
  ·rename_i h1; rw [List.getElem?_take_of_lt (by omega)]
  ·rename_i h1
   rw [ht]
   rcases Nat.lt_or_ge r (L + 2) with h2 | h2
   ·have : r = L ∨ r = L + 1 := by omega
    rcases this with rfl | rfl
    ·simp [List.getElem?_eq_getElem (by omega : r < l.length)]
    ·have e : L + 1 - L = 1 := by omega
     simp [e, List.getElem?_eq_getElem (by omega : L + 1 < l.length)]
   ·rw [List.getElem?_eq_none (by omega), List.getElem?_eq_none (by simp; omega)]
theorem Inv.swap2 {S : Nat → Nat → Prop} {β : Blocks} {t t' : List D} {h : List AObj} {A B : AObj} {a : Act} {w : World} (hI : Inv S β ⟨t, h ++ [B, A]⟩ a w) (hl : t'.length = t.length)
  (hobj : ∀ o ∈ h ++ [B, A], o.under h.length = true)
  (ht : ∀ (q : Nat) d, t'[q]? = some d → (t[q]? = some d ∧ d.under h.length 5 = true) ∨ (d = .ptr h.length 0 ∧ t[q]? = some (.ptr (h.length + 1) 0)) ∨ (d = .ptr (h.length + 1) 0 ∧ t[q]? = some (.ptr h.length 0))) :
  ∃ β', Inv S β' ⟨t', h ++ [A, B]⟩ a w ∧ ∀ S0 β0 w0, β0.length = h.length → Ext DR S0 β0 w0 S β w → Ext DR S0 β0 w0 S β' w := by
 have hlen : β.length = h.length + 2 := by have := hI.heap.len; simpa using this
 obtain ⟨βp, p, q, rfl, hpl⟩ := last2 β h.length hlen
 have hsw : ∀ r, (βp ++ [q, p])[r]? = (βp ++ [p, q])[swL h.length r]? := fun r => by rw [sw_get βp p q r, hpl]
 have hsh : ∀ r, (h ++ [A, B])[r]? = (h ++ [B, A])[swL h.length r]? := fun r => sw_get h B A r
 have hu : ∀ (r : Nat) x, r < h.length → (βp ++ [p, q])[r]? = some x → (βp ++ [q, p])[r]? = some x := fun r x hr hx => by rw [hsw, swL_old hr]; exact hx
 refine ⟨βp ++ [q, p], ⟨by rw [hI.size]; exact hl.symm, fun i v d h1 h2 => ?_, ⟨by simp [hpl], fun r o b c k h1 h2 => ?_, fun r o b c k h1 l1 h2 => ?_, fun r r' o o' b c k c' k' h1 l1 h2 l2 h3 h4 => ?_, fun r o b c k i h1 l1 h2 hs => ?_, hI.heap.sb, hI.heap.gl, fun r b c k hr => by rw [hsw] at hr; exact hI.heap.dl _ _ _ _ hr⟩, hI.defers⟩, fun S0 β0 w0 h0 hE => ?_⟩
 ·rcases ht i d h2 with ⟨g1, g2⟩ | ⟨rfl, g1⟩ | ⟨rfl, g1⟩
  ·exact (hI.tmps i v d h1 g1).under hu 5 g2
  ·have := hI.tmps i v _ h1 g1
   cases this with
   | ptr _ _ b c k hb => exact .ptr _ 0 b c k (by rw [hsw]; have : swL h.length h.length = h.length + 1 := (by unfold swL; simp); rw [this]; exact hb)
  ·have := hI.tmps i v _ h1 g1
   cases this with
   | ptr _ _ b c k hb => exact .ptr _ 0 b c k (by rw [hsw]; have : swL h.length (h.length + 1) = h.length := (by unfold swL; simp); rw [this]; exact hb)
 ·rw [hsh] at h1
  rw [hsw] at h2
  exact (hI.heap.obj _ o b c k h1 h2).under hu (hobj o (List.mem_of_getElem? h1))
 ·rw [hsh] at h1
  rw [hsw] at h2
  exact hI.heap.lt _ o b c k h1 l1 h2
 ·rw [hsh] at h1 h2
  rw [hsw] at h3 h4
  have := hI.heap.inj _ _ o o' b c k c' k' h1 l1 h2 l2 h3 h4
  have := congrArg (swL h.length) this
  rwa [swL_sw, swL_sw] at this
 ·rw [hsh] at h1
  rw [hsw] at h2
  exact hI.heap.own _ o b c k i h1 l1 h2 hs
 ·refine ⟨hE.keeps, fun r x hx => hu r x (by have := lt_of_getElem? hx; omega) (hE.pre r x hx), hE.size, hE.rest, fun r b c k hr => ?_, hE.os, hE.tape, hE.output, hE.drawn, hE.stay⟩
  rw [hsw] at hr
  exact hE.fresh _ b c k hr
theorem loadD_app {i : TI} {h : List AObj} {d v : D} (e : List AObj) (hl : loadD i h d = some v) : loadD i (h ++ e) d = some v := by
 cases d with
 | ptr r off =>
  simp only [loadD] at hl ⊢
  cases hr : h[r]? with
  | none => rw [hr] at hl; cases hl
  | some o => rw [List.getElem?_append, if_pos (lt_of_getElem? hr), hr]; rw [hr] at hl; exact hl
 | eptr r j off =>
  simp only [loadD] at hl ⊢
  cases hr : h[r]? with
  | none => rw [hr] at hl; cases hl
  | some o => rw [List.getElem?_append, if_pos (lt_of_getElem? hr), hr]; rw [hr] at hl; exact hl
 | vptr cs => exact hl
 | v x => cases x <;> first | exact hl | (simp only [loadD] at hl; cases hl)
 | _ => simp only [loadD] at hl; cases hl
theorem opLoad_spec {o : Oper} {t a x : Nat} (h : opLoad o = some (t, a, x)) : o.op = .load t (.tmp a) ∧ o.dst = some x ∧ o.guard = none := by
 unfold opLoad at h
 split at h
 ·rename_i h1 h2 h3; cases h; exact ⟨h1, h2, h3⟩
 ·cases h
theorem opAlloc_spec {o : Oper} {t y : Nat} (h : opAlloc o = some (t, y)) : o.op = .alloc t ∧ o.dst = some y ∧ o.guard = none := by
 unfold opAlloc at h
 split at h
 ·rename_i h1 h2 h3; cases h; exact ⟨h1, h2, h3⟩
 ·cases h
theorem opStore_spec {o : Oper} {t y x : Nat} (h : opStore o = some (t, y, x)) : o.op = .store t (.tmp y) (.tmp x) ∧ o.dst = none ∧ o.guard = none := by
 unfold opStore at h
 split at h
 ·rename_i h1 h2 h3; cases h; exact ⟨h1, h2, h3⟩
 ·cases h
theorem aop_load {E : Env} {Γ : Calling} {ops : List Oper} {o : Oper} {σ : St} {t a x : Nat} {i : TI} {v : D} (h : opLoad o = some (t, a, x)) (hT : E.T t = some i) (hv : loadD i σ.heap (σ.ev (.tmp a)) = some v) : aop E Γ ops o σ = some ⟨σ.tmps.set x v, σ.heap⟩ := by
 obtain ⟨h1, h2, h3⟩ := opLoad_spec h
 simp only [aop, aeff, aguard, h3, h1, ares, hT, hv, Option.map_some, h2, St.put]
theorem aop_alloc {E : Env} {Γ : Calling} {ops : List Oper} {o : Oper} {σ : St} {t y : Nat} {i : TI} (h : opAlloc o = some (t, y)) (hT : E.T t = some i) (hz : i.zero.cells.length ≤ maxLen) : aop E Γ ops o σ = some ⟨σ.tmps.set y (.ptr σ.heap.length 0), σ.heap ++ [.cells (i.zero.cells.map .v)]⟩ := by
 obtain ⟨h1, h2, h3⟩ := opAlloc_spec h
 simp only [aop, aeff, aguard, h3, h1, ares, hT, decide_eq_true hz, if_true, h2, St.put]
theorem aop_store {E : Env} {Γ : Calling} {ops : List Oper} {o : Oper} {σ : St} {t y x r : Nat} {i : TI} {v : D} {cs : List D} (h : opStore o = some (t, y, x)) (hT : E.T t = some i) (hy : σ.ev (.tmp y) = .ptr r 0) (hx : σ.ev (.tmp x) = v) (hr : σ.heap[r]? = some (.cells cs))
  (hs : v.solid = true) (hl : v.cells.length = i.size) (hc : cs.length = i.size) (hun : E.untS = false) : aop E Γ ops o σ = some ⟨σ.tmps, σ.heap.set r (.cells v.cells)⟩ := by
 obtain ⟨h1, h2, h3⟩ := opStore_spec h
 have hsp : splice cs 0 v.cells = some v.cells := by
  unfold splice
  rw [if_pos (by omega), List.take_zero, List.nil_append, Nat.zero_add, List.drop_of_length_le (by omega), List.append_nil]
 simp only [aop, aeff, aguard, h3, h1, ares, hT, hy, hx, D.into, hun, Bool.false_eq_true, if_false, storeD, hs, hl, beq_self_eq_true, Bool.and_self, if_true, hr, hsp, Option.map_some, h2, St.put]
def LF (listed : Array Bool) : Nat → Bool := fun k => listed.getD k true
theorem LF_set {listed : Array Bool} {i : Nat} (hi : i < listed.size) (k : Nat) : LF (listed.setIfInBounds i true) k = if k = i then true else LF listed k := by
 unfold LF
 simp only [Array.getD_eq_getD_getElem?, Array.getElem?_setIfInBounds]
 by_cases h : i = k
 ·subst h; simp [hi]
 ·rw [if_neg h, if_neg (fun e => h e.symm)]
def nb : Bool → Nat
 | true => 0
 | false => 1
def unl (f : Nat → Bool) : Nat := nb (f 0) + nb (f 1) + nb (f 2) + nb (f 3) + nb (f 4) + nb (f 5)
structure Par (σ0 : St) (x0 x1 y0 y1 : Nat) (v0 v1 : D) (z : List D) (f : Nat → Bool) (P0 P1 : Nat) (σ : St) : Prop where
 len : σ.tmps.length = σ0.tmps.length
 tm : ∀ q : Nat, σ.tmps[q]? = if q = y1 ∧ f 3 = true then some (.ptr P1 0) else if q = y0 ∧ f 2 = true then some (.ptr P0 0) else if q = x1 ∧ f 1 = true then some v1 else if q = x0 ∧ f 0 = true then some v0 else σ0.tmps[q]?
 s4 : f 4 = true → f 0 = true ∧ f 2 = true
 s5 : f 5 = true → f 1 = true ∧ f 3 = true
 hp : (f 2 = false ∧ f 3 = false ∧ σ.heap = σ0.heap) ∨
  (f 2 = true ∧ f 3 = false ∧ P0 = σ0.heap.length ∧ σ.heap = σ0.heap ++ [.cells (if f 4 then v0.cells else z)]) ∨
  (f 2 = false ∧ f 3 = true ∧ P1 = σ0.heap.length ∧ σ.heap = σ0.heap ++ [.cells (if f 5 then v1.cells else z)]) ∨
  (f 2 = true ∧ f 3 = true ∧ P0 = σ0.heap.length ∧ P1 = σ0.heap.length + 1 ∧ σ.heap = σ0.heap ++ [.cells (if f 4 then v0.cells else z), .cells (if f 5 then v1.cells else z)]) ∨
  (f 2 = true ∧ f 3 = true ∧ P0 = σ0.heap.length + 1 ∧ P1 = σ0.heap.length ∧ σ.heap = σ0.heap ++ [.cells (if f 5 then v1.cells else z), .cells (if f 4 then v0.cells else z)])
theorem Par.ext_heap {σ0 σ : St} {x0 x1 y0 y1 : Nat} {v0 v1 : D} {z : List D} {f : Nat → Bool} {P0 P1 : Nat} (h : Par σ0 x0 x1 y0 y1 v0 v1 z f P0 P1 σ) : ∃ e, σ.heap = σ0.heap ++ e := by
 rcases h.hp with ⟨_, _, e⟩ | ⟨_, _, _, e⟩ | ⟨_, _, _, e⟩ | ⟨_, _, _, _, e⟩ | ⟨_, _, _, _, e⟩
 ·exact ⟨[], by rw [e, List.append_nil]⟩
 all_goals exact ⟨_, e⟩
theorem ready_mem {ops : Array Oper} {listed : Array Bool} {k : Nat} (hk : k < ops.size) (hl : listed.getD k true = false) (he : ∀ e ∈ ops[k].after, Region.binds .any e = true → listed.getD e.on false = true) : k ∈ Region.ready .any ops listed := by
 unfold Region.ready
 rw [List.mem_filter, List.mem_range, Bool.and_eq_true]
 refine ⟨hk, by simpa using hl, ?_⟩
 rw [Array.getElem?_eq_getElem hk]
 simp only [Option.map_some, Option.getD_some, Array.all_eq_true_iff_forall_mem]
 intro e hee
 rw [Bool.or_eq_true]
 by_cases hb : Region.binds .any e = true
 ·right; exact he e hee hb
 ·left; simpa using hb
theorem first_false (f : Nat → Bool) (h : unl f ≠ 0) : ∃ k, k < 6 ∧ f k = false ∧ ∀ j, j < k → f j = true := by
 have main : ∀ n, n ≤ 6 → (∀ j, j < n → f j = true) ∨ ∃ k, k < n ∧ f k = false ∧ ∀ j, j < k → f j = true := by
  intro n
  induction n with
  | zero => intro _; exact .inl fun j hj => by omega
  | succ n ih =>
   intro hn
   rcases ih (by omega) with h1 | ⟨k, h1, h2⟩
   ·cases hf : f n with
    | true =>
     refine .inl fun j hj => ?_
     rcases Nat.lt_or_ge j n with h3 | h3
     ·exact h1 j h3
     ·have : j = n := by omega
      rw [this]; exact hf
    | false => exact .inr ⟨n, by omega, hf, h1⟩
   ·exact .inr ⟨k, by omega, h2⟩
 rcases main 6 (Nat.le_refl _) with h1 | ⟨k, h1, h2⟩
 ·exfalso
  apply h
  unfold unl
  rw [h1 0 (by omega), h1 1 (by omega), h1 2 (by omega), h1 3 (by omega), h1 4 (by omega), h1 5 (by omega)]
  rfl
 ·exact ⟨k, h1, h2⟩
theorem all_true (f : Nat → Bool) (h : unl f = 0) : ∀ k, k < 6 → f k = true := by
 have z : ∀ b, nb b = 0 → b = true := by intro b hb; cases b; cases hb; rfl
 unfold unl at h
 intro k hk
 have : k = 0 ∨ k = 1 ∨ k = 2 ∨ k = 3 ∨ k = 4 ∨ k = 5 := by omega
 rcases this with rfl | rfl | rfl | rfl | rfl | rfl <;> exact z _ (by omega)
theorem getD_both {listed : Array Bool} {k : Nat} (hk : k < listed.size) (h : listed.getD k true = true) : listed.getD k false = true := by
 simp only [Array.getD_eq_getD_getElem?, Array.getElem?_eq_getElem hk, Option.getD_some] at h ⊢
 exact h
theorem par_steps {P : Program} {E : Env} {Γ : Calling} (hT : ∀ t i, E.T t = some i → tiOf P t = some i) (hΓ : CSound DR P Γ) (hun : E.untS = false) {ops : Array Oper} {o0 o1 o2 o3 o4 o5 : Oper} (ho : ops.toList = [o0, o1, o2, o3, o4, o5])
  {t a0 a1 x0 x1 y0 y1 : Nat} (l0 : opLoad o0 = some (t, a0, x0)) (l1 : opLoad o1 = some (t, a1, x1)) (l2 : opAlloc o2 = some (t, y0)) (l3 : opAlloc o3 = some (t, y1)) (l4 : opStore o4 = some (t, y0, x0)) (l5 : opStore o5 = some (t, y1, x1))
  (hd : x0 ≠ x1 ∧ x0 ≠ y0 ∧ x0 ≠ y1 ∧ x1 ≠ y0 ∧ x1 ≠ y1 ∧ y0 ≠ y1) (ha : (a0 ≠ x0 ∧ a0 ≠ x1 ∧ a0 ≠ y0 ∧ a0 ≠ y1) ∧ a1 ≠ x0 ∧ a1 ≠ x1 ∧ a1 ≠ y0 ∧ a1 ≠ y1)
  (hb : bindsOn o4 0 = true ∧ bindsOn o4 2 = true ∧ bindsOn o5 1 = true ∧ bindsOn o5 3 = true) (hearly : (ops.toList.zipIdx.all fun x => x.1.after.all fun e => !Region.binds .any e || decide (e.on < x.2)) = true)
  {i : TI} (hti : E.T t = some i) {σ0 : St} {v0 v1 : D} (hv0 : loadD i σ0.heap (σ0.ev (.tmp a0)) = some v0) (hv1 : loadD i σ0.heap (σ0.ev (.tmp a1)) = some v1) (c0 : v0.solid = true ∧ v0.cells.length = i.size) (c1 : v1.solid = true ∧ v1.cells.length = i.size)
  (hz : i.zero.cells.length ≤ maxLen) (hzl : i.zero.cells.length = i.size) (hlt : x0 < σ0.tmps.length ∧ x1 < σ0.tmps.length ∧ y0 < σ0.tmps.length ∧ y1 < σ0.tmps.length)
  {S0 : Nat → Nat → Prop} {β0 : Blocks} {w0 : World} {Q : Exit → Act → World → Prop}
  (hfin : ∀ (f : Nat → Bool) P0 P1 S β σ a w, (∀ k, k < 6 → f k = true) → Par σ0 x0 x1 y0 y1 v0 v1 (i.zero.cells.map .v) f P0 P1 σ → Inv S β σ a w → Ext DR S0 β0 w0 S β w → Q .normal a w) :
  ∀ (fuel : Nat) (listed : Array Bool) (S : Nat → Nat → Prop) (β : Blocks) (σ : St) (a : Act) (w : World) (P0 P1 : Nat), listed.size = 6 → unl (LF listed) = fuel → Par σ0 x0 x1 y0 y1 v0 v1 (i.zero.cells.map .v) (LF listed) P0 P1 σ → Inv S β σ a w → Ext DR S0 β0 w0 S β w → wpAny P .any ops Q fuel listed a w := by
 have hsz : ops.size = 6 := by rw [← Array.length_toList, ho]; rfl
 have hg : ∀ k, ops[k]? = [o0, o1, o2, o3, o4, o5][k]? := fun k => by rw [← Array.getElem?_toList, ho]
 obtain ⟨d1, d2, d3, d4, d5, d6⟩ := hd
 obtain ⟨⟨e1, e2, e3, e4⟩, e5, e6, e7, e8⟩ := ha
 intro fuel
 induction fuel with
 | zero =>
  intro listed S β σ a w P0 P1 hs hu hP hI hE
  have hall := all_true _ hu
  refine ⟨?_, hfin _ P0 P1 S β σ a w hall hP hI hE⟩
  rw [List.eq_nil_iff_forall_not_mem]
  intro k hk
  obtain ⟨h1, h2, _⟩ := ready_spec hk
  have := hall k (by omega)
  unfold LF at this
  rw [this] at h2; cases h2
 | succ fuel ih =>
  intro listed S β σ a w P0 P1 hs hu hP hI hE
  refine ⟨fun hready => ?_, fun k hk => ?_⟩
  ·exfalso
   obtain ⟨k, k1, k2, k3⟩ := first_false (LF listed) (by omega)
   have : k ∈ Region.ready .any ops listed := by
    refine ready_mem (by omega) k2 fun e he hbe => ?_
    have hz := List.all_eq_true.1 hearly (ops[k]'(by omega), k) (by
     rw [List.mem_zipIdx_iff_getElem?]
     simp [Array.getElem?_eq_getElem (by omega : k < ops.size)])
    have hz' := Array.all_eq_true_iff_forall_mem.1 hz e he
    rw [hbe] at hz'
    have hlt : e.on < k := by simpa using hz'
    exact getD_both (by omega) (k3 e.on hlt)
   rw [hready] at this
   cases this
  ·obtain ⟨k1, k2, o, ko, ke⟩ := ready_spec hk
   have hkf : LF listed k = false := k2
   have hF : ∀ q, LF (listed.setIfInBounds k true) q = if q = k then true else LF listed q := fun q => LF_set (by omega) q
   have hs' : (listed.setIfInBounds k true).size = 6 := by simp [hs]
   generalize listed.setIfInBounds k true = listed' at hF hs' ⊢
   have edge : ∀ q, bindsOn o q = true → q < 6 → LF listed q = true := by
    intro q hq hq6
    unfold bindsOn at hq
    rw [Array.any_eq_true] at hq
    obtain ⟨j, hj, hq⟩ := hq
    rw [Bool.and_eq_true] at hq
    have := ke o.after[j] (Array.getElem_mem hj) hq.1
    have e : o.after[j].on = q := by simpa using hq.2
    rw [e] at this
    unfold LF
    simp only [Array.getD_eq_getD_getElem?, Array.getElem?_eq_getElem (by omega : q < listed.size), Option.getD_some] at this ⊢
    exact this
   have heva : ∀ q, q ≠ x0 → q ≠ x1 → q ≠ y0 → q ≠ y1 → σ.ev (.tmp q) = σ0.ev (.tmp q) := by
    intro q h1 h2 h3 h4
    simp only [St.ev, List.getD]
    rw [hP.tm q]
    simp [h1, h2, h3, h4]
   obtain ⟨ex, hex⟩ := hP.ext_heap
   have hPl := hP.len
   have k6 : k = 0 ∨ k = 1 ∨ k = 2 ∨ k = 3 ∨ k = 4 ∨ k = 5 := by omega
   rcases k6 with rfl | rfl | rfl | rfl | rfl | rfl
   ·rw [hg] at ko
    cases ko
    have g0 : LF listed' 0 = true := by rw [hF]; rfl
    have g1 : LF listed' 1 = LF listed 1 := by rw [hF]; rfl
    have g2 : LF listed' 2 = LF listed 2 := by rw [hF]; rfl
    have g3 : LF listed' 3 = LF listed 3 := by rw [hF]; rfl
    have g4 : LF listed' 4 = LF listed 4 := by rw [hF]; rfl
    have g5 : LF listed' 5 = LF listed 5 := by rw [hF]; rfl
    have hu' : unl (LF listed') = fuel := by
     unfold unl at hu ⊢
     rw [hkf] at hu
     rw [g0, g1, g2, g3, g4, g5]
     simp only [nb] at hu ⊢
     omega
    refine aop_sound hT hΓ (hg 0) hI (aop_load l0 hti (by rw [heva _ e1 e2 e3 e4, hex]; exact loadD_app ex hv0)) (fun S1 β1 a1 w1 hI1 hE1 => ih listed' S1 β1 _ a1 w1 P0 P1 hs' hu' ?_ hI1 (hE.trans hE1))
    refine ⟨by simp [hPl], fun q => ?_, fun h => ?_, fun h => ?_, by rw [g2, g3, g4, g5]; exact hP.hp⟩
    ·rw [List.getElem?_set]
     by_cases hq : x0 = q
     ·subst hq
      rw [if_pos rfl, if_pos (by rw [hPl]; omega)]
      simp [d1, d2, d3, g0]
     ·have hq' : ¬ q = x0 := fun e => hq e.symm
      rw [if_neg hq, hP.tm q, g1, g2, g3, g0]
      simp [hq']
    ·rw [g4] at h; have := hP.s4 h; rw [g0, g2]; exact ⟨rfl, this.2⟩
    ·rw [g5] at h; have := hP.s5 h; rw [g1, g3]; exact this
   ·rw [hg] at ko
    cases ko
    have g1 : LF listed' 1 = true := by rw [hF]; rfl
    have g0 : LF listed' 0 = LF listed 0 := by rw [hF]; rfl
    have g2 : LF listed' 2 = LF listed 2 := by rw [hF]; rfl
    have g3 : LF listed' 3 = LF listed 3 := by rw [hF]; rfl
    have g4 : LF listed' 4 = LF listed 4 := by rw [hF]; rfl
    have g5 : LF listed' 5 = LF listed 5 := by rw [hF]; rfl
    have hu' : unl (LF listed') = fuel := by
     unfold unl at hu ⊢
     rw [hkf] at hu
     rw [g0, g1, g2, g3, g4, g5]
     simp only [nb] at hu ⊢
     omega
    refine aop_sound hT hΓ (hg 1) hI (aop_load l1 hti (by rw [heva _ e5 e6 e7 e8, hex]; exact loadD_app ex hv1)) (fun S1 β1 a1 w1 hI1 hE1 => ih listed' S1 β1 _ a1 w1 P0 P1 hs' hu' ?_ hI1 (hE.trans hE1))
    refine ⟨by simp [hPl], fun q => ?_, fun h => ?_, fun h => ?_, by rw [g2, g3, g4, g5]; exact hP.hp⟩
    ·rw [List.getElem?_set]
     by_cases hq : x1 = q
     ·subst hq
      rw [if_pos rfl, if_pos (by rw [hPl]; omega)]
      simp [d4, d5, g1]
     ·have hq' : ¬ q = x1 := fun e => hq e.symm
      rw [if_neg hq, hP.tm q, g0, g2, g3, g1]
      simp [hq']
    ·rw [g4] at h; have := hP.s4 h; rw [g0, g2]; exact this
    ·rw [g5] at h; have := hP.s5 h; rw [g1, g3]; exact ⟨rfl, this.2⟩
   ·rw [hg] at ko
    cases ko
    have g2 : LF listed' 2 = true := by rw [hF]; rfl
    have g0 : LF listed' 0 = LF listed 0 := by rw [hF]; rfl
    have g1 : LF listed' 1 = LF listed 1 := by rw [hF]; rfl
    have g3 : LF listed' 3 = LF listed 3 := by rw [hF]; rfl
    have g4 : LF listed' 4 = LF listed 4 := by rw [hF]; rfl
    have g5 : LF listed' 5 = LF listed 5 := by rw [hF]; rfl
    have hu' : unl (LF listed') = fuel := by
     unfold unl at hu ⊢
     rw [hkf] at hu
     rw [g0, g1, g2, g3, g4, g5]
     simp only [nb] at hu ⊢
     omega
    have hst : LF listed 4 = false := by
     cases hq : LF listed 4 with
     | false => rfl
     | true => have := (hP.s4 hq).2; rw [hkf] at this; cases this
    refine aop_sound hT hΓ (hg 2) hI (aop_alloc l2 hti hz) (fun S1 β1 a1 w1 hI1 hE1 => ih listed' S1 β1 _ a1 w1 σ.heap.length P1 hs' hu' ?_ hI1 (hE.trans hE1))
    refine ⟨by simp [hPl], fun q => ?_, fun h => ?_, fun h => ?_, ?_⟩
    ·rw [List.getElem?_set]
     by_cases hq : y0 = q
     ·subst hq
      rw [if_pos rfl, if_pos (by rw [hPl]; omega)]
      simp [d6, g2]
     ·have hq' : ¬ q = y0 := fun e => hq e.symm
      rw [if_neg hq, hP.tm q, g0, g1, g2, g3]
      simp [hq']
    ·rw [g4] at h; have := hP.s4 h; rw [g0, g2]; exact ⟨this.1, rfl⟩
    ·rw [g5] at h; have := hP.s5 h; rw [g1, g3]; exact this
    ·rw [g2, g3, g4, g5]
     rcases hP.hp with ⟨p2, p3, e⟩ | ⟨p2, p3, p4, e⟩ | ⟨p2, p3, p4, e⟩ | ⟨p2, p3, p4, p5, e⟩ | ⟨p2, p3, p4, p5, e⟩ <;> first | (rw [hkf] at p2; cases p2; done) | skip
     ·exact .inr (.inl ⟨rfl, p3, by rw [e], by simp [e, hst]⟩)
     ·exact .inr (.inr (.inr (.inr ⟨rfl, p3, by simp [e], p4, by simp [e, hst]⟩)))
   ·rw [hg] at ko
    cases ko
    have g3 : LF listed' 3 = true := by rw [hF]; rfl
    have g0 : LF listed' 0 = LF listed 0 := by rw [hF]; rfl
    have g1 : LF listed' 1 = LF listed 1 := by rw [hF]; rfl
    have g2 : LF listed' 2 = LF listed 2 := by rw [hF]; rfl
    have g4 : LF listed' 4 = LF listed 4 := by rw [hF]; rfl
    have g5 : LF listed' 5 = LF listed 5 := by rw [hF]; rfl
    have hu' : unl (LF listed') = fuel := by
     unfold unl at hu ⊢
     rw [hkf] at hu
     rw [g0, g1, g2, g3, g4, g5]
     simp only [nb] at hu ⊢
     omega
    have hst : LF listed 5 = false := by
     cases hq : LF listed 5 with
     | false => rfl
     | true => have := (hP.s5 hq).2; rw [hkf] at this; cases this
    refine aop_sound hT hΓ (hg 3) hI (aop_alloc l3 hti hz) (fun S1 β1 a1 w1 hI1 hE1 => ih listed' S1 β1 _ a1 w1 P0 σ.heap.length hs' hu' ?_ hI1 (hE.trans hE1))
    refine ⟨by simp [hPl], fun q => ?_, fun h => ?_, fun h => ?_, ?_⟩
    ·rw [List.getElem?_set]
     by_cases hq : y1 = q
     ·subst hq
      rw [if_pos rfl, if_pos (by rw [hPl]; omega)]
      simp [g3]
     ·have hq' : ¬ q = y1 := fun e => hq e.symm
      rw [if_neg hq, hP.tm q, g0, g1, g2, g3]
      simp [hq']
    ·rw [g4] at h; have := hP.s4 h; rw [g0, g2]; exact this
    ·rw [g5] at h; have := hP.s5 h; rw [g1, g3]; exact ⟨this.1, rfl⟩
    ·rw [g2, g3, g4, g5]
     rcases hP.hp with ⟨p2, p3, e⟩ | ⟨p2, p3, p4, e⟩ | ⟨p2, p3, p4, e⟩ | ⟨p2, p3, p4, p5, e⟩ | ⟨p2, p3, p4, p5, e⟩ <;> first | (rw [hkf] at p3; cases p3; done) | skip
     ·exact .inr (.inr (.inl ⟨p2, rfl, by rw [e], by simp [e, hst]⟩))
     ·exact .inr (.inr (.inr (.inl ⟨p2, rfl, p4, by simp [e], by simp [e, hst]⟩)))
   ·rw [hg] at ko
    cases ko
    have g4 : LF listed' 4 = true := by rw [hF]; rfl
    have g0 : LF listed' 0 = LF listed 0 := by rw [hF]; rfl
    have g1 : LF listed' 1 = LF listed 1 := by rw [hF]; rfl
    have g2 : LF listed' 2 = LF listed 2 := by rw [hF]; rfl
    have g3 : LF listed' 3 = LF listed 3 := by rw [hF]; rfl
    have g5 : LF listed' 5 = LF listed 5 := by rw [hF]; rfl
    have hu' : unl (LF listed') = fuel := by
     unfold unl at hu ⊢
     rw [hkf] at hu
     rw [g0, g1, g2, g3, g4, g5]
     simp only [nb] at hu ⊢
     omega
    have fx : LF listed 0 = true := edge 0 hb.1 (by omega)
    have fy : LF listed 2 = true := edge 2 hb.2.1 (by omega)
    have hx : σ.ev (.tmp x0) = v0 := by
     simp only [St.ev, List.getD]
     rw [hP.tm x0]
     simp [d1, d2, d3, fx]
    have hy : σ.ev (.tmp y0) = .ptr P0 0 := by
     simp only [St.ev, List.getD]
     rw [hP.tm y0]
     simp [d6, fy]
    have hzc : (i.zero.cells.map D.v).length = i.size := by rw [List.length_map, hzl]
    have key : σ.heap[P0]? = some (.cells (i.zero.cells.map .v)) ∧ Par σ0 x0 x1 y0 y1 v0 v1 (i.zero.cells.map .v) (LF listed') P0 P1 ⟨σ.tmps, σ.heap.set P0 (.cells v0.cells)⟩ := by
     have base : ∀ hp, Par σ0 x0 x1 y0 y1 v0 v1 (i.zero.cells.map .v) (LF listed') P0 P1 ⟨σ.tmps, σ.heap.set P0 (.cells v0.cells)⟩ := fun hp => ⟨hPl, fun q => by rw [hP.tm q, g0, g1, g2, g3], fun h => by rw [g0, g2]; exact ⟨fx, fy⟩, fun h => by rw [g5] at h; rw [g1, g3]; exact hP.s5 h, hp⟩
     rcases hP.hp with ⟨p2, p3, e⟩ | ⟨p2, p3, p4, e⟩ | ⟨p2, p3, p4, e⟩ | ⟨p2, p3, p4, p5, e⟩ | ⟨p2, p3, p4, p5, e⟩ <;> first | (rw [fy] at p2; cases p2; done) | skip
     ·subst p4; exact ⟨by simp [e, hkf], base (.inr (.inl ⟨by rw [g2]; exact p2, by rw [g3]; exact p3, rfl, by simp [e, g4]⟩))⟩
     ·subst p4; exact ⟨by simp [e, hkf], base (.inr (.inr (.inr (.inl ⟨by rw [g2]; exact p2, by rw [g3]; exact p3, rfl, p5, by simp [e, g4, g5]⟩))))⟩
     ·subst p4; exact ⟨by simp [e, hkf], base (.inr (.inr (.inr (.inr ⟨by rw [g2]; exact p2, by rw [g3]; exact p3, rfl, p5, by simp [e, g4, g5]⟩))))⟩
    exact aop_sound hT hΓ (hg 4) hI (aop_store l4 hti hy hx key.1 c0.1 c0.2 hzc hun) (fun S1 β1 a1 w1 hI1 hE1 => ih listed' S1 β1 _ a1 w1 P0 P1 hs' hu' key.2 hI1 (hE.trans hE1))
   ·rw [hg] at ko
    cases ko
    have g5 : LF listed' 5 = true := by rw [hF]; rfl
    have g0 : LF listed' 0 = LF listed 0 := by rw [hF]; rfl
    have g1 : LF listed' 1 = LF listed 1 := by rw [hF]; rfl
    have g2 : LF listed' 2 = LF listed 2 := by rw [hF]; rfl
    have g3 : LF listed' 3 = LF listed 3 := by rw [hF]; rfl
    have g4 : LF listed' 4 = LF listed 4 := by rw [hF]; rfl
    have hu' : unl (LF listed') = fuel := by
     unfold unl at hu ⊢
     rw [hkf] at hu
     rw [g0, g1, g2, g3, g4, g5]
     simp only [nb] at hu ⊢
     omega
    have fx : LF listed 1 = true := edge 1 hb.2.2.1 (by omega)
    have fy : LF listed 3 = true := edge 3 hb.2.2.2 (by omega)
    have hx : σ.ev (.tmp x1) = v1 := by
     simp only [St.ev, List.getD]
     rw [hP.tm x1]
     simp [d4, d5, fx]
    have hy : σ.ev (.tmp y1) = .ptr P1 0 := by
     simp only [St.ev, List.getD]
     rw [hP.tm y1]
     simp [fy]
    have hzc : (i.zero.cells.map D.v).length = i.size := by rw [List.length_map, hzl]
    have key : σ.heap[P1]? = some (.cells (i.zero.cells.map .v)) ∧ Par σ0 x0 x1 y0 y1 v0 v1 (i.zero.cells.map .v) (LF listed') P0 P1 ⟨σ.tmps, σ.heap.set P1 (.cells v1.cells)⟩ := by
     have base : ∀ hp, Par σ0 x0 x1 y0 y1 v0 v1 (i.zero.cells.map .v) (LF listed') P0 P1 ⟨σ.tmps, σ.heap.set P1 (.cells v1.cells)⟩ := fun hp => ⟨hPl, fun q => by rw [hP.tm q, g0, g1, g2, g3], fun h => by rw [g4] at h; rw [g0, g2]; exact hP.s4 h, fun h => by rw [g1, g3]; exact ⟨fx, fy⟩, hp⟩
     rcases hP.hp with ⟨p2, p3, e⟩ | ⟨p2, p3, p4, e⟩ | ⟨p2, p3, p4, e⟩ | ⟨p2, p3, p4, p5, e⟩ | ⟨p2, p3, p4, p5, e⟩ <;> first | (rw [fy] at p3; cases p3; done) | skip
     ·subst p4; exact ⟨by simp [e, hkf], base (.inr (.inr (.inl ⟨by rw [g2]; exact p2, by rw [g3]; exact p3, rfl, by simp [e, g5]⟩)))⟩
     ·subst p5; exact ⟨by simp [e, hkf], base (.inr (.inr (.inr (.inl ⟨by rw [g2]; exact p2, by rw [g3]; exact p3, p4, rfl, by simp [e, g4, g5]⟩))))⟩
     ·subst p5; exact ⟨by simp [e, hkf], base (.inr (.inr (.inr (.inr ⟨by rw [g2]; exact p2, by rw [g3]; exact p3, p4, rfl, by simp [e, g4, g5]⟩))))⟩
    exact aop_sound hT hΓ (hg 5) hI (aop_store l5 hti hy hx key.1 c1.1 c1.2 hzc hun) (fun S1 β1 a1 w1 hI1 hE1 => ih listed' S1 β1 _ a1 w1 P0 P1 hs' hu' key.2 hI1 (hE.trans hE1))
theorem par_sound {P : Program} {E : Env} {Γ : Calling} (hT : ∀ t i, E.T t = some i → tiOf P t = some i) (hΓ : CSound DR P Γ) {ops : Array Oper} {σ0 σ' : St} (h : parRun E ops σ0 = some σ') {S0 : Nat → Nat → Prop} {β0 : Blocks} {a0 : Act} {w0 : World} (hI : Inv S0 β0 σ0 a0 w0)
  {Q : Exit → Act → World → Prop} (hQ : ∀ S' β' a' w', Inv S' β' σ' a' w' → Ext DR S0 β0 w0 S' β' w' → Q .normal a' w') : wpAny P .any ops Q ops.size (Array.replicate ops.size false) a0 w0 := by
 unfold parRun at h
 split at h
 ·cases h
 ·rename_i t p0 x0 p1 x1 y0 y1 hplan
  split at h
  ·cases h
  ·rename_i i hti
   by_cases hun' : E.untS = true
   ·rw [if_pos hun'] at h; cases h
   rw [if_neg hun'] at h
   have hun : E.untS = false := by simpa using hun'
   split at h
   ·rename_i v0 v1 hv0 hv1
    split at h
    ·rename_i hc
     cases h
     simp only [copyOk, Bool.and_eq_true, beq_iff_eq, decide_eq_true_eq] at hc
     obtain ⟨⟨⟨⟨⟨⟨⟨a1, a2⟩, a3⟩, a4⟩, ⟨⟨b1, b2⟩, b3⟩, b4⟩, hz, hzl⟩, hu1, hu2⟩, ⟨⟨n0, n1⟩, n2⟩, n3⟩ := hc
     unfold parPlan at hplan
     split at hplan
     ·rename_i o0 o1 o2 o3 o4 o5 ho
      split at hplan
      ·rename_i t0 c0 z0 t1 c1 z1 t2 u0 t3 u1 t4 r0 s0 t5 r1 s1 l0 l1 l2 l3 l4 l5
       split at hplan
       ·rename_i hk
        simp only [Bool.and_eq_true, beq_iff_eq, bne_iff_ne] at hk
        obtain ⟨⟨⟨⟨hk1, hk2⟩, hk3⟩, hk4⟩, hk5⟩ := hk
        obtain ⟨⟨⟨⟨⟨⟨⟨⟨rfl, rfl⟩, rfl⟩, rfl⟩, rfl⟩, rfl⟩, rfl⟩, rfl⟩, rfl⟩ := hk1
        cases hplan
        obtain ⟨⟨⟨⟨⟨d1, d2⟩, d3⟩, d4⟩, d5⟩, d6⟩ := hk2
        obtain ⟨⟨⟨⟨⟨⟨⟨e1, e2⟩, e3⟩, e4⟩, e5⟩, e6⟩, e7⟩, e8⟩ := hk3
        obtain ⟨⟨⟨g1, g2⟩, g3⟩, g4⟩ := hk4
        have hsz : ops.size = 6 := by rw [← Array.length_toList, ho]; rfl
        rw [hsz]
        have hLen := hI.heap.len
        refine par_steps hT hΓ hun ho l0 l1 l2 l3 l4 l5 ⟨d1, d2, d3, d4, d5, d6⟩ ⟨⟨e1, e2, e3, e4⟩, e5, e6, e7, e8⟩ ⟨g1, g2, g3, g4⟩ hk5 hti hv0 hv1 ⟨a1, a2⟩ ⟨b1, b2⟩ hz hzl ⟨n0, n1, n2, n3⟩
         (S0 := S0) (β0 := β0) (w0 := w0) ?_ 6 _ S0 β0 σ0 a0 w0 0 0 (by simp) rfl ⟨rfl, fun q => ?_, fun h => absurd h (by decide), fun h => absurd h (by decide), .inl ⟨by decide, by decide, rfl⟩⟩ hI (Ext.refl _ _ _)
        ·intro f P0 P1 S β σ a w hall hP hIn hEx
         have f0 := hall 0 (by omega)
         have f1 := hall 1 (by omega)
         have f2 := hall 2 (by omega)
         have f3 := hall 3 (by omega)
         have f4 := hall 4 (by omega)
         have f5 := hall 5 (by omega)
         -- the slots at the end
         have tm' : ∀ q : Nat, ((((σ0.tmps.set x0 v0).set x1 v1).set y0 (.ptr σ0.heap.length 0)).set y1 (.ptr (σ0.heap.length + 1) 0))[q]? = if q = y1 then some (.ptr (σ0.heap.length + 1) 0) else if q = y0 then some (.ptr σ0.heap.length 0) else if q = x1 then some v1 else if q = x0 then some v0 else σ0.tmps[q]? := by
          intro q
          simp only [List.getElem?_set, List.length_set]
          by_cases h1 : y1 = q
          ·subst h1; simp [n3]
          ·have h1' : ¬ q = y1 := fun e => h1 e.symm
           by_cases h2 : y0 = q
           ·subst h2; simp [h1, h1', n2]
           ·have h2' : ¬ q = y0 := fun e => h2 e.symm
            by_cases h3 : x1 = q
            ·subst h3; simp [h1, h1', h2, h2', n1]
            ·have h3' : ¬ q = x1 := fun e => h3 e.symm
             by_cases h4 : x0 = q
             ·subst h4; simp [h1, h1', h2, h2', h3, h3', n0]
             ·have h4' : ¬ q = x0 := fun e => h4 e.symm
              simp [h1, h1', h2, h2', h3, h3', h4, h4']
         have tm : ∀ q : Nat, σ.tmps[q]? = if q = y1 then some (.ptr P1 0) else if q = y0 then some (.ptr P0 0) else if q = x1 then some v1 else if q = x0 then some v0 else σ0.tmps[q]? := fun q => by
          rw [hP.tm q, f0, f1, f2, f3]; simp
         have obj : ∀ o ∈ σ0.heap ++ [.cells v1.cells, .cells v0.cells], o.under σ0.heap.length = true := by
          intro o hm
          rcases List.mem_append.1 hm with hm | hm
          ·exact List.all_eq_true.1 hu2 o hm
          ·simp only [List.mem_cons, List.not_mem_nil, or_false] at hm
           rcases hm with rfl | rfl
           ·exact b4
           ·exact a4
         rcases hP.hp with ⟨p2, p3, e⟩ | ⟨p2, p3, p4, e⟩ | ⟨p2, p3, p4, e⟩ | ⟨p2, p3, p4, p5, e⟩ | ⟨p2, p3, p4, p5, e⟩
         ·rw [f2] at p2; cases p2
         ·rw [f3] at p3; cases p3
         ·rw [f2] at p2; cases p2
         ·rw [f4, f5] at e
          have hσ : σ = ⟨(((σ0.tmps.set x0 v0).set x1 v1).set y0 (.ptr σ0.heap.length 0)).set y1 (.ptr (σ0.heap.length + 1) 0), σ0.heap ++ [.cells v0.cells, .cells v1.cells]⟩ := by
           obtain ⟨t1, h1⟩ := σ
           have ht : t1 = (((σ0.tmps.set x0 v0).set x1 v1).set y0 (.ptr σ0.heap.length 0)).set y1 (.ptr (σ0.heap.length + 1) 0) := List.ext_getElem? fun q => by
            rw [tm' q]
            have := tm q
            rw [p4, p5] at this
            exact this
           have he : h1 = σ0.heap ++ [.cells v0.cells, .cells v1.cells] := e
           rw [ht, he]
          rw [hσ] at hIn
          exact hQ S β a w hIn hEx
         ·rw [f4, f5] at e
          obtain ⟨t1, h1⟩ := σ
          have he : h1 = σ0.heap ++ [.cells v1.cells, .cells v0.cells] := e
          subst he
          obtain ⟨β', i1, i2⟩ := hIn.swap2 (t' := (((σ0.tmps.set x0 v0).set x1 v1).set y0 (.ptr σ0.heap.length 0)).set y1 (.ptr (σ0.heap.length + 1) 0)) (by simp only [List.length_set]; exact hP.len.symm) obj (fun q d hd => by
           have tq := tm q
           rw [p4, p5] at tq
           rw [tm' q] at hd
           split at hd
           ·rename_i hq; rw [if_pos hq] at tq; cases hd; exact .inr (.inr ⟨rfl, tq⟩)
           ·rename_i hq1
            rw [if_neg hq1] at tq
            split at hd
            ·rename_i hq; rw [if_pos hq] at tq; cases hd; exact .inr (.inl ⟨rfl, tq⟩)
            ·rename_i hq2
             rw [if_neg hq2] at tq
             split at hd
             ·rename_i hq; rw [if_pos hq] at tq; cases hd; exact .inl ⟨tq, b3⟩
             ·rename_i hq3
              rw [if_neg hq3] at tq
              split at hd
              ·rename_i hq; rw [if_pos hq] at tq; cases hd; exact .inl ⟨tq, a3⟩
              ·rename_i hq4
               rw [if_neg hq4] at tq
               exact .inl ⟨tq.trans hd, List.all_eq_true.1 hu1 d (List.mem_of_getElem? hd)⟩)
          exact hQ S β' a w i1 (i2 S0 β0 w0 hLen hEx)
        ·have z : ∀ k, k < 6 → LF (Array.replicate 6 false) k = false := by decide
         rw [z 3 (by omega), z 2 (by omega), z 1 (by omega), z 0 (by omega)]
         simp
       ·cases hplan
      ·cases hplan
     ·cases hplan
    ·cases h
   ·cases h
end Go.Abs
