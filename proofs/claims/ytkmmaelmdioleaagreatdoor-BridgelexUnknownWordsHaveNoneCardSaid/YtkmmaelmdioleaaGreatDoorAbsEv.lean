import Derived.Test.YtkmmaelmdioleaaGreatDoorAbsY
import Derived.Test.YtkmmaelmdioleaaGreatDoorAbsHC
namespace Go.Abs
set_option linter.unusedVariables false
set_option linter.unusedSimpArgs false
set_option linter.unnecessarySimpa false
variable {DR : Prop}
def D.ren (g : Nat → Nat) : Nat → D → D
 | 0, _ => .undef
 | _ + 1, .undef => .undef
 | _ + 1, .v x => .v x
 | _ + 1, .ptr r o => .ptr (g r) o
 | _ + 1, .eptr r i o => .eptr (g r) i o
 | _ + 1, .vptr cs => .vptr cs
 | _ + 1, .map r => .map (g r)
 | _ + 1, .osl r a b c => .osl (g r) a b c
 | _ + 1, .tsl t es => .tsl (g t) es
 | n + 1, .func f a b => .func f (a.map (D.ren g n)) (b.map (D.ren g n))
 | n + 1, .agg cs => .agg (cs.map (D.ren g n))
 | n + 1, .tuple cs => .tuple (cs.map (D.ren g n))
 | n + 1, .box t d => .box t (D.ren g n d)
theorem RelD.ren {S : Nat → Nat → Prop} {β β' : Blocks} {w : World} {g : Nat → Nat} (hb : ∀ (r : Nat) x, β[r]? = some x → β'[g r]? = some x) : ∀ (n : Nat) {v : Value} {d : D}, RelD S β w v d → RelD S β' w v (d.ren g n)
 | 0, _, _, h => by simp only [D.ren]; exact .undef _
 | n + 1, _, _, h => by
  have lst : ∀ {vs : Array Value} {cs : List D}, (∀ (i : Nat) (u : Value) (x : D), vs[i]? = some u → cs[i]? = some x → RelD S β w u x) → ∀ (i : Nat) (u : Value) (x : D), vs[i]? = some u → (cs.map (D.ren g n))[i]? = some x → RelD S β' w u x := fun hr i u x h1 h2 => by
   rw [List.getElem?_map] at h2
   obtain ⟨y, hy, rfl⟩ := Option.map_eq_some_iff.1 h2
   exact RelD.ren hb n (hr i u y h1 hy)
  cases h with
  | undef _ => exact .undef _
  | v _ x h => exact .v _ x h
  | ptr r off b c k h => exact .ptr _ off b c k (hb _ _ h)
  | eptr r i off b c k p h hp => exact .eptr _ i off b c k p (hb _ _ h) hp
  | vptr b off cells vals hs hr => exact .vptr b off cells vals hs hr
  | map r b c k h => exact .map _ b c k (hb _ _ h)
  | osl r off len b c k p cap full h h2 hp hcap => exact .osl _ off len b c k p cap full (hb _ _ h) h2 hp hcap
  | tsl t b c k n es h hn hs hv => exact .tsl _ b c k n es (hb _ _ h) hn hs hv
  | func f first captured fs cs hl hl' hr hr' => exact .func f first captured _ _ (by rw [List.length_map]; exact hl) (by rw [List.length_map]; exact hl') (lst hr) (lst hr')
  | agg vs cs hl hr => exact .agg vs _ (by rw [List.length_map]; exact hl) (lst hr)
  | tuple vs cs hl hr => exact .tuple vs _ (by rw [List.length_map]; exact hl) (lst hr)
  | box t v d hr => exact .box t v _ (RelD.ren hb n hr)
def AObj.ren (g : Nat → Nat) : AObj → AObj
 | .cells cs => .cells (cs.map (D.ren g 5))
 | .grid k cs => .grid k (cs.map (D.ren g 5))
 | .map ks vs => .map ks (vs.map (D.ren g 5))
 | .iter m a b c => .iter (m.ren g 5) a b c
 | o => o
theorem AObj.ren_live (g : Nat → Nat) (o : AObj) : (o.ren g).live = o.live := by cases o <;> rfl
theorem AObj.ren_room (g : Nat → Nat) (o : AObj) : (o.ren g).room = o.room := by cases o <;> rfl
theorem ObjRel.ren {S : Nat → Nat → Prop} {β β' : Blocks} {w : World} {g : Nat → Nat} (hb : ∀ (r : Nat) x, β[r]? = some x → β'[g r]? = some x) {b c k : Nat} {o : AObj} (h : ObjRel S β w b c k o) : ObjRel S β' w b c k (o.ren g) := by
 have lst : ∀ {cs : List D} {j : Nat} {d : D}, (cs.map (D.ren g 5))[j]? = some d → ∃ e, cs[j]? = some e ∧ d = e.ren g 5 := fun h => by
  rw [List.getElem?_map] at h
  obtain ⟨y, hy, rfl⟩ := Option.map_eq_some_iff.1 h
  exact ⟨y, hy, rfl⟩
 cases o with
 | cells cs =>
  obtain ⟨h1, h2, h3, cur, e, h4, h5, h6⟩ := h
  exact ⟨h1, h2, by rw [List.length_map]; exact h3, cur, e, h4, h5, fun j v d hv hd => by obtain ⟨y, hy, rfl⟩ := lst hd; exact (h6 j v y hv hy).ren hb 5⟩
 | grid k' cs =>
  obtain ⟨h1, h0, h2, h3, cur, e, h4, h5, h6⟩ := h
  exact ⟨h1, h0, h2, by rw [List.length_map]; exact h3, cur, e, h4, h5, fun j v d hv hd => by obtain ⟨y, hy, rfl⟩ := lst hd; exact (h6 j v y hv hy).ren hb 5⟩
 | map ks vs =>
  obtain ⟨h1, h2, es, h3, h4, h5, h6, h7⟩ := h
  exact ⟨h1, by rw [List.length_map]; exact h2, es, h3, h4, h5, h6, fun i e d he hd => by obtain ⟨y, hy, rfl⟩ := lst hd; exact (h7 i e y he hy).ren hb 5⟩
 | iter m since seen last =>
  obtain ⟨h1, mv, h2, h3⟩ := h
  exact ⟨h1, mv, h2, h3.ren hb 5⟩
 | row k' es => exact h
 | tok k' n => exact h
 | dead => exact h
def swapL {α : Type} (L : Nat) (l : List α) : List α := match l[L]?, l[L + 1]? with
 | some a, some b => (l.set L b).set (L + 1) a
 | _, _ => l
theorem swapL_get {α : Type} {L : Nat} {l : List α} (h : L + 1 < l.length) (r : Nat) : (swapL L l)[r]? = l[swL L r]? := by
 unfold swapL
 rw [List.getElem?_eq_getElem (show L < l.length by omega), List.getElem?_eq_getElem h]
 dsimp only
 unfold swL
 by_cases h1 : r = L
 ·subst h1
  rw [if_pos rfl, List.getElem?_set_ne (by omega), List.getElem?_set_self (by omega), List.getElem?_eq_getElem h]
 ·by_cases h2 : r = L + 1
  ·subst h2
   rw [if_neg h1, if_pos rfl, List.getElem?_set_self (by rw [List.length_set]; exact h), List.getElem?_eq_getElem (show L < l.length by omega)]
  ·rw [if_neg h1, if_neg h2, List.getElem?_set_ne (by omega), List.getElem?_set_ne (by omega)]
theorem swapL_len {α : Type} (L : Nat) (l : List α) : (swapL L l).length = l.length := by
 unfold swapL
 split <;> simp
def swS (L : Nat) (σ : St) : St := ⟨σ.tmps.map (D.ren (swL L) 5), (swapL L σ.heap).map (AObj.ren (swL L))⟩
theorem Inv.sw {S : Nat → Nat → Prop} {β : Blocks} {σ : St} {a : Act} {w : World} (hI : Inv S β σ a w) {L : Nat} (hL : L + 1 < σ.heap.length) :
  ∃ β', Inv S β' (swS L σ) a w ∧ ∀ S0 β0 w0, β0.length ≤ L → Ext DR S0 β0 w0 S β w → Ext DR S0 β0 w0 S β' w := by
 have hlen : β.length = σ.heap.length := hI.heap.len
 have hLβ : L + 1 < β.length := by omega
 have hsw : ∀ r, (swapL L β)[r]? = β[swL L r]? := swapL_get hLβ
 have hsh : ∀ r, (swapL L σ.heap)[r]? = σ.heap[swL L r]? := swapL_get hL
 have hb : ∀ (r : Nat) x, β[r]? = some x → (swapL L β)[swL L r]? = some x := fun r x h => by rw [hsw, swL_sw]; exact h
 have ho : ∀ {r : Nat} {o : AObj}, (((swapL L σ.heap).map (AObj.ren (swL L))))[r]? = some o → ∃ o', σ.heap[swL L r]? = some o' ∧ o = o'.ren (swL L) := fun h => by
  rw [List.getElem?_map, hsh] at h
  obtain ⟨y, hy, rfl⟩ := Option.map_eq_some_iff.1 h
  exact ⟨y, hy, rfl⟩
 refine ⟨swapL L β, ⟨by rw [hI.size]; simp [swS], fun i v d h1 h2 => ?_, ⟨by rw [swapL_len, hlen]; simp [swS, swapL_len], fun r o b c k h1 h2 => ?_, fun r o b c k h1 l1 h2 => ?_, fun r r' o o' b c k c' k' h1 l1 h2 l2 h3 h4 => ?_, fun r o b c k i h1 l1 h2 hs => ?_, hI.heap.sb, hI.heap.gl, fun r b c k hr => by rw [hsw] at hr; exact hI.heap.dl _ _ _ _ hr⟩, hI.defers⟩, fun S0 β0 w0 h0 hE => ?_⟩
 ·have h2 : (σ.tmps.map (D.ren (swL L) 5))[i]? = some d := h2
  rw [List.getElem?_map] at h2
  obtain ⟨y, hy, rfl⟩ := Option.map_eq_some_iff.1 h2
  exact (hI.tmps i v y h1 hy).ren hb 5
 ·obtain ⟨o', e1, rfl⟩ := ho h1
  rw [hsw] at h2
  exact (hI.heap.obj _ o' b c k e1 h2).ren hb
 ·obtain ⟨o', e1, rfl⟩ := ho h1
  rw [hsw] at h2
  rw [AObj.ren_live] at l1
  exact hI.heap.lt _ o' b c k e1 l1 h2
 ·obtain ⟨o1, e1, rfl⟩ := ho h1
  obtain ⟨o2, e2, rfl⟩ := ho h2
  rw [AObj.ren_live] at l1 l2
  rw [hsw] at h3 h4
  have := hI.heap.inj _ _ o1 o2 b c k c' k' e1 l1 e2 l2 h3 h4
  have := congrArg (swL L) this
  rwa [swL_sw, swL_sw] at this
 ·obtain ⟨o1, e1, rfl⟩ := ho h1
  rw [AObj.ren_live] at l1
  rw [AObj.ren_room]
  rw [hsw] at h2
  exact hI.heap.own _ o1 b c k i e1 l1 h2 hs
 ·refine ⟨hE.keeps, fun r x hx => ?_, hE.size, hE.rest, fun r b c k hr => ?_, hE.os, hE.tape, hE.output, hE.drawn, hE.stay⟩
  ·rw [hsw, swL_old (by have := lt_of_getElem? hx; omega)]
   exact hE.pre r x hx
  ·rw [hsw] at hr
   exact hE.fresh _ b c k hr
def firstRef (tmps : List D) (i : Nat) : Nat := tmps.findIdx fun d => d.ref? == some i
def passS : Nat → Nat → St → St
 | 0, _, σ => σ
 | n + 1, i, σ => passS n (i + 1) (if i + 1 < σ.heap.length ∧ firstRef σ.tmps (i + 1) < firstRef σ.tmps i then swS i σ else σ)
def canonN (L0 : Nat) : Nat → St → St
 | 0, σ => σ
 | n + 1, σ => canonN L0 n (passS (σ.heap.length - L0 - 1) L0 σ)
def canonS (L0 : Nat) (σ : St) : St := canonN L0 (σ.heap.length - L0 - 1) σ
def SameRun (DR : Prop) (L0 : Nat) (a : Act) (w : World) (σ σ' : St) : Prop := ∀ S β, Inv S β σ a w → ∃ β', Inv S β' σ' a w ∧ ∀ S0 β0 w0, β0.length ≤ L0 → Ext DR S0 β0 w0 S β w → Ext DR S0 β0 w0 S β' w
theorem SameRun.refl {L0 : Nat} {a : Act} {w : World} (σ : St) : SameRun DR L0 a w σ σ := fun S β hI => ⟨β, hI, fun _ _ _ _ h => h⟩
theorem SameRun.trans {L0 : Nat} {a : Act} {w : World} {σ1 σ2 σ3 : St} (h : SameRun DR L0 a w σ1 σ2) (g : SameRun DR L0 a w σ2 σ3) : SameRun DR L0 a w σ1 σ3 := fun S β hI => by
 obtain ⟨β1, h1, h2⟩ := h S β hI
 obtain ⟨β2, g1, g2⟩ := g S β1 h1
 exact ⟨β2, g1, fun S0 β0 w0 h0 hE => g2 S0 β0 w0 h0 (h2 S0 β0 w0 h0 hE)⟩
theorem passS_same {L0 : Nat} {a : Act} {w : World} : ∀ (n i : Nat) (σ : St), L0 ≤ i → SameRun DR L0 a w σ (passS n i σ)
 | 0, i, σ, h => .refl σ
 | n + 1, i, σ, h => by
  simp only [passS]
  split
  ·rename_i hc
   refine SameRun.trans (fun S β hI => ?_) (passS_same n (i + 1) _ (by omega))
   obtain ⟨β', h1, h2⟩ := hI.sw (DR := DR) hc.1
   exact ⟨β', h1, fun S0 β0 w0 h0 hE => h2 S0 β0 w0 (by omega) hE⟩
  ·exact passS_same n (i + 1) σ (by omega)
theorem canonN_same {L0 : Nat} {a : Act} {w : World} : ∀ (n : Nat) (σ : St), SameRun DR L0 a w σ (canonN L0 n σ)
 | 0, σ => .refl σ
 | n + 1, σ => (passS_same _ L0 σ (Nat.le_refl _)).trans (canonN_same n _)
theorem canonS_same {L0 : Nat} {a : Act} {w : World} (σ : St) : SameRun DR L0 a w σ (canonS L0 σ) := canonN_same _ σ
variable {DR : Prop} {P : Program} {X : Cx}
theorem regrid' {S : Nat → Nat → Prop} {β : Blocks} {w : World} {h : List AObj} (hi : HInv S β w h) {r k : Nat} {es : List V} (hr : h[r]? = some (.row k es)) : HInv S β w (h.set r (.grid k ((es.flatMap V.cells).map .v))) := by
 have hlt := lt_of_getElem? hr
 have hlen := hi.len
 obtain ⟨⟨b, c, k'⟩, hb⟩ : ∃ x, β[r]? = some x := ⟨_, List.getElem?_eq_getElem (by omega)⟩
 obtain ⟨o1, o2, o3, o4, o5, cur, e, o6, o7, o8⟩ := hi.obj r _ b c k' hr hb
 subst o1
 obtain ⟨f1, f2⟩ := flat_cell o2 (xs := es) o5
 exact (own_write (DR := False) (w' := w) (o' := .grid k ((es.flatMap V.cells).map .v)) hi hr rfl hb rfl (fun _ _ => rfl) rfl rfl rfl (Nat.le_refl _) rfl
  (fun hk => ⟨rfl, o2, o3, by rw [List.length_map, f1]; exact Nat.mul_le_mul_right _ o4, cur, e, o6, o7, fun j v d h1 h2 => by
   rw [List.getElem?_map] at h2
   obtain ⟨y, hy, rfl⟩ := Option.map_eq_some_iff.1 h2
   obtain ⟨i, j', x, e1, e2, e3⟩ := f2 j y hy
   exact .v _ _ (o8 i j' x y v e1 e2 (by rw [← e3]; exact h1))⟩)).2
def nilSl : V → Bool
 | .sl .nil [] => true
 | _ => false
def gridAt (σ : St) (r : Nat) : St := match σ.heap[r]? with
 | some (.row k es) => if es.all nilSl && !es.isEmpty then ⟨σ.tmps, σ.heap.set r (.grid k ((es.flatMap V.cells).map .v))⟩ else σ
 | _ => σ
theorem Ht.gridAt {c : Code} {σ : St} {Q : Post} {r : Nat} (h : Ht DR P c (gridAt σ r) Q) : Ht DR P c σ Q := by
 unfold Abs.gridAt at h
 split at h
 ·rename_i k es hr
  split at h
  ·exact fun S β a w hI => h S β a w ⟨hI.size, hI.tmps, regrid' hI.heap hr, hI.defers⟩
  ·exact h
 ·exact h
def gridS (σ : St) : St := (List.range σ.heap.length).foldl gridAt σ
theorem Ht.gridL {c : Code} {Q : Post} : ∀ (l : List Nat) (σ : St), Ht DR P c (l.foldl Abs.gridAt σ) Q → Ht DR P c σ Q
 | [], σ, h => h
 | r :: l, σ, h => Ht.gridAt (Ht.gridL l _ h)
def letTmps (o : Oper) : List Nat := match o.op with
 | .buildSlice _ _ parts => parts.toList.filterMap fun p => match p.2 with
  | .tmp t => some t
  | _ => none
 | .store _ _ (.tmp x) => [x]
 | .convert _ _ (.tmp x) => [x]
 | _ => []
def letAt (σ : St) (t : Nat) : St := match σ.tmps[t]? with
 | some (.osl r off len full) => match σ.heap[r]? with
  | some (.row k es) => match frz ((List.replicate σ.heap.length .dead).set r (.row k es)) 3 (.osl r off len full) with
   | some x => ⟨σ.tmps.set t (.v x), σ.heap.set r .dead⟩
   | none => σ
  | _ => σ
 | _ => σ
theorem letAt_inv {S : Nat → Nat → Prop} {β : Blocks} {σ : St} {a : Act} {w : World} (hI : Inv S β σ a w) (t : Nat) : ∃ S', Inv S' β (letAt σ t) a w ∧ Ext DR S β w S' β w := by
 unfold letAt
 split
 case h_2 => exact ⟨S, hI, Ext.refl _ _ _⟩
 rename_i r off len full ht
 split
 case h_2 => exact ⟨S, hI, Ext.refl _ _ _⟩
 rename_i k es hr
 split
 case h_2 => exact ⟨S, hI, Ext.refl _ _ _⟩
 rename_i x hz
 have hlt := lt_of_getElem? hr
 have b2 : ∀ (q : Nat) (y : AObj), ((List.replicate σ.heap.length AObj.dead).set r (.row k es))[q]? = some y → y.live = true → σ.heap[q]? = some y := fun q y h hy => by
  rw [List.getElem?_set] at h
  split at h
  ·rename_i e; subst e
   split at h
   ·cases h; exact hr
   ·cases h
  ·rw [List.getElem?_replicate] at h
   split at h
   ·cases h; cases hy
   ·cases h
 have b1 : ∀ (q : Nat) (y : AObj), (σ.heap.set r .dead)[q]? = some y → y.live = true → σ.heap[q]? = some y := fun q y h hy => by
  rw [List.getElem?_set] at h
  split at h
  ·cases h; cases hy
  ·exact h
 have dis : ∀ (q : Nat) (y z : AObj), (σ.heap.set r .dead)[q]? = some y → y.live = true → ((List.replicate σ.heap.length AObj.dead).set r (.row k es))[q]? = some z → z.live = true → False := fun q y z h hy g hz => by
  rw [List.getElem?_set] at h
  split at h
  ·cases h; cases hy
  ·rename_i hne
   rw [List.getElem?_set_ne hne, List.getElem?_replicate] at g
   split at g
   ·cases g; cases hz
   ·cases g
 obtain ⟨hE, hI1⟩ := hI.heap.part (DR := DR) (h1 := σ.heap.set r .dead) (h2 := (List.replicate σ.heap.length AObj.dead).set r (.row k es)) (by simp) (by simp) b1 b2 dis
 have hk : Keeps S w (withOwn S β ((List.replicate σ.heap.length AObj.dead).set r (.row k es))) w := keeps_own S β _ w
 refine ⟨_, ⟨by rw [hI.size]; simp, fun i v d g1 g2 => ?_, hI1, hI.defers⟩, hE⟩
 have g3 : (σ.tmps.set t (.v x))[i]? = some d := g2
 clear g2
 rw [List.getElem?_set] at g3
 split at g3
 ·rename_i e
  subst e
  split at g3
  ·cases g3
   exact .v _ _ (frz_sound (hI.heap.sub (by simp) b2) 3 _ _ _ hz (hI.tmps t v _ g1 ht))
  ·cases g3
 ·exact (hI.tmps i v d g1 g3).mono hk fun _ _ h => h
def letS (o : Oper) (σ : St) : St := (letTmps o).foldl letAt σ
theorem letL_inv {β : Blocks} {a : Act} {w : World} : ∀ (l : List Nat) {S : Nat → Nat → Prop} {σ : St}, Inv S β σ a w → ∃ S', Inv S' β (l.foldl letAt σ) a w ∧ Ext DR S β w S' β w
 | [], S, σ, hI => ⟨S, hI, Ext.refl _ _ _⟩
 | t :: l, S, σ, hI => by
  obtain ⟨S1, h1, e1⟩ := letAt_inv (DR := DR) hI t
  obtain ⟨S2, h2, e2⟩ := letL_inv l h1
  exact ⟨S2, h2, e1.trans e2⟩
def zops (E : Env) (Γ : Calling) (ops : List Oper) : List Oper → St → Option St
 | [], σ => some σ
 | o :: r, σ => match aop E Γ ops o σ with
  | some σ' => zops E Γ ops r σ'
  | none => match aop E Γ ops o (letS o σ) with
   | some σ' => zops E Γ ops r σ'
   | none => none
theorem zops_sound {E : Env} {Γ : Calling} (hT : ∀ t i, E.T t = some i → tiOf P t = some i) (hΓ : CSound DR P Γ) {ops : Array Oper} {σ1 : St} {R : Exit → Act → World → Prop} : ∀ (l : List Oper) (i : Nat) {S : Nat → Nat → Prop} {β : Blocks} {σ : St} {a : Act} {w : World}, (∀ j o, l[j]? = some o → ops[i + j]? = some o) → zops E Γ ops.toList l σ = some σ1 → Inv S β σ a w →
  (∀ S' β' a' w', Inv S' β' σ1 a' w' → Ext DR S β w S' β' w' → wpOps P ops R [] a' w') → wpOps P ops R (List.range' i l.length) a w
 | [], i, S, β, σ, a, w, hl, h, hI, hk => by
  simp only [zops, Option.some.injEq] at h
  subst h
  exact hk S β a w hI (Ext.refl _ _ _)
 | o :: l, i, S, β, σ, a, w, hl, h, hI, hk => by
  have ho : ops[i]? = some o := hl 0 o rfl
  have hl' : ∀ j o', l[j]? = some o' → ops[i + 1 + j]? = some o' := fun j o' hj => by
   have := hl (j + 1) o' hj
   rwa [show i + (j + 1) = i + 1 + j by omega] at this
  simp only [zops] at h
  rw [List.length_cons, List.range'_succ, wpOps_cons]
  split at h
  ·rename_i σ2 h2
   exact aop_sound hT hΓ ho hI h2 (fun S1 β1 a1 w1 hI1 hE1 => zops_sound hT hΓ l (i + 1) hl' h hI1 fun S' β' a' w' hI' hE' => hk S' β' a' w' hI' (hE1.trans hE'))
  ·split at h
   ·rename_i σ2 h2
    obtain ⟨S0, hI0, hE0⟩ := letL_inv (DR := DR) (letTmps o) hI
    exact aop_sound hT hΓ ho hI0 h2 (fun S1 β1 a1 w1 hI1 hE1 => zops_sound hT hΓ l (i + 1) hl' h hI1 fun S' β' a' w' hI' hE' => hk S' β' a' w' hI' ((hE0.trans hE1).trans hE'))
   ·cases h
theorem Ht.zregion {E : Env} {Γ : Calling} (hT : ∀ t i, E.T t = some i → tiOf P t = some i) (hΓ : CSound DR P Γ) {p : Nat} {ops : Array Oper} {σ σ' : St} {Q : Post} (h : zops E Γ ops.toList ops.toList σ = some σ') (hq : Q .normal σ') : Ht DR P (.region p ops false) σ Q := by
 intro S β a w hI
 refine wp_region ?_
 have := zops_sound (P := P) hT hΓ (ops := ops) (R := fun ex a' w' => ∃ e σ', Q e σ' ∧ Ends DR S β w e σ' ex a' w') ops.toList 0 (fun j o hj => by rw [Nat.zero_add, ← Array.getElem?_toList]; exact hj) h hI (fun S' β' a' w' hI' hE' => by
  unfold wpOps
  exact ⟨.normal, σ', hq, rfl, S', β', hI', hE'⟩)
 rw [List.range_eq_range']
 rw [← Array.length_toList]
 exact this
def flagN : SFlag → Nat
 | .plain => 0
 | .nil => 1
 | .full => 2
 | .non => 3
 | .nonfull => 4
theorem flagN_inj {a b : SFlag} (h : flagN a = flagN b) : a = b := by cases a <;> cases b <;> first | rfl | cases h
mutual
def eqV' : V → V → Bool
 | .bool a, .bool b => a == b
 | .int k n, .int k' n' => decide (k = k') && decide (n = n')
 | .str a, .str b => decide (a.data.toList = b.data.toList)
 | .nilptr, .nilptr => true
 | .nilmap, .nilmap => true
 | .nilfunc, .nilfunc => true
 | .nilif, .nilif => true
 | .fn a, .fn b => decide (a = b)
 | .clo a x, .clo b y => decide (a = b) && eqVs x y
 | .sl a x, .sl b y => decide (flagN a = flagN b) && eqVs x y
 | .agg x, .agg y => eqVs x y
 | .tuple x, .tuple y => eqVs x y
 | .ptr x, .ptr y => eqVs x y
 | .map x z, .map y u => eqVs x y && eqVs z u
 | _, _ => false
def eqVs : List V → List V → Bool
 | [], [] => true
 | a :: x, b :: y => eqV' a b && eqVs x y
 | _, _ => false
end
mutual
theorem eqV'_eq : ∀ (a b : V), eqV' a b = true → a = b
 | .bool a, b, h => by cases b <;> simp_all [eqV']
 | .int k n, b, h => by cases b <;> simp_all [eqV']
 | .str a, b, h => by
  cases b <;> simp only [eqV', Bool.false_eq_true, decide_eq_true_eq] at h
  rename_i b
  cases a; cases b
  simp only [V.str.injEq, ByteArray.mk.injEq]
  exact Array.ext' h
 | .nilptr, b, h => by cases b <;> simp_all [eqV']
 | .nilmap, b, h => by cases b <;> simp_all [eqV']
 | .nilfunc, b, h => by cases b <;> simp_all [eqV']
 | .nilif, b, h => by cases b <;> simp_all [eqV']
 | .fn a, b, h => by cases b <;> simp_all [eqV']
 | .clo a x, b, h => by
  cases b <;> simp only [eqV', Bool.false_eq_true, Bool.and_eq_true, decide_eq_true_eq] at h
  rw [h.1, eqVs_eq _ _ h.2]
 | .sl a x, b, h => by
  cases b <;> simp only [eqV', Bool.false_eq_true, Bool.and_eq_true, decide_eq_true_eq] at h
  rw [flagN_inj h.1, eqVs_eq _ _ h.2]
 | .agg x, b, h => by
  cases b <;> simp only [eqV', Bool.false_eq_true] at h
  rw [eqVs_eq _ _ h]
 | .tuple x, b, h => by
  cases b <;> simp only [eqV', Bool.false_eq_true] at h
  rw [eqVs_eq _ _ h]
 | .ptr x, b, h => by
  cases b <;> simp only [eqV', Bool.false_eq_true] at h
  rw [eqVs_eq _ _ h]
 | .map x z, b, h => by
  cases b <;> simp only [eqV', Bool.false_eq_true, Bool.and_eq_true] at h
  rw [eqVs_eq _ _ h.1, eqVs_eq _ _ h.2]
theorem eqVs_eq : ∀ (a b : List V), eqVs a b = true → a = b
 | [], b, h => by cases b <;> simp_all [eqVs]
 | a :: x, b, h => by
  cases b <;> simp only [eqVs, Bool.false_eq_true, Bool.and_eq_true] at h
  rw [eqV'_eq _ _ h.1, eqVs_eq _ _ h.2]
end
mutual
def eqD' : D → D → Bool
 | .undef, .undef => true
 | .v x, .v y => eqV' x y
 | .ptr a b, .ptr c d => decide (a = c) && decide (b = d)
 | .eptr a b i, .eptr c d j => decide (a = c) && (decide (b = d) && decide (i = j))
 | .vptr x, .vptr y => eqVs x y
 | .osl a b c d, .osl a' b' c' d' => decide (a = a') && (decide (b = b') && (decide (c = c') && (d == d')))
 | .tsl a x, .tsl b y => decide (a = b) && eqVs x y
 | .map a, .map b => decide (a = b)
 | .func f x y, .func g z u => decide (f = g) && (eqDs x z && eqDs y u)
 | .agg x, .agg y => eqDs x y
 | .tuple x, .tuple y => eqDs x y
 | .box a x, .box b y => decide (a = b) && eqD' x y
 | _, _ => false
def eqDs : List D → List D → Bool
 | [], [] => true
 | a :: x, b :: y => eqD' a b && eqDs x y
 | _, _ => false
end
mutual
theorem eqD'_eq : ∀ (a b : D), eqD' a b = true → a = b
 | .undef, b, h => by cases b <;> simp_all [eqD']
 | .v x, b, h => by
  cases b <;> simp only [eqD', Bool.false_eq_true] at h
  rw [eqV'_eq _ _ h]
 | .ptr x y, b, h => by cases b <;> simp_all [eqD']
 | .eptr x y z, b, h => by cases b <;> simp_all [eqD']
 | .vptr x, b, h => by
  cases b <;> simp only [eqD', Bool.false_eq_true] at h
  rw [eqVs_eq _ _ h]
 | .osl x y z u, b, h => by cases b <;> simp_all [eqD']
 | .tsl x y, b, h => by
  cases b <;> simp only [eqD', Bool.false_eq_true, Bool.and_eq_true, decide_eq_true_eq] at h
  rw [h.1, eqVs_eq _ _ h.2]
 | .map x, b, h => by cases b <;> simp_all [eqD']
 | .func f x y, b, h => by
  cases b <;> simp only [eqD', Bool.false_eq_true, Bool.and_eq_true, decide_eq_true_eq] at h
  rw [h.1, eqDs_eq _ _ h.2.1, eqDs_eq _ _ h.2.2]
 | .agg x, b, h => by
  cases b <;> simp only [eqD', Bool.false_eq_true] at h
  rw [eqDs_eq _ _ h]
 | .tuple x, b, h => by
  cases b <;> simp only [eqD', Bool.false_eq_true] at h
  rw [eqDs_eq _ _ h]
 | .box t x, b, h => by
  cases b <;> simp only [eqD', Bool.false_eq_true, Bool.and_eq_true, decide_eq_true_eq] at h
  rw [h.1, eqD'_eq _ _ h.2]
theorem eqDs_eq : ∀ (a b : List D), eqDs a b = true → a = b
 | [], b, h => by cases b <;> simp_all [eqDs]
 | a :: x, b, h => by
  cases b <;> simp only [eqDs, Bool.false_eq_true, Bool.and_eq_true] at h
  rw [eqD'_eq _ _ h.1, eqDs_eq _ _ h.2]
end
def eqO' : AObj → AObj → Bool
 | .row k x, .row l y => decide (k = l) && eqVs x y
 | .cells x, .cells y => eqDs x y
 | .grid k x, .grid l y => decide (k = l) && eqDs x y
 | .tok k n, .tok l m => decide (k = l) && decide (n = m)
 | .map x z, .map y u => eqVs x y && eqDs z u
 | .iter a b c d, .iter a' b' c' d' => eqD' a a' && (decide (b = b') && (decide (c = c') && decide (d = d')))
 | .dead, .dead => true
 | _, _ => false
theorem eqO'_eq : ∀ (a b : AObj), eqO' a b = true → a = b := by
 intro a b h
 cases a <;> cases b <;> simp only [eqO', Bool.false_eq_true, Bool.and_eq_true, decide_eq_true_eq] at h
 ·rw [h.1, eqVs_eq _ _ h.2]
 ·rw [eqDs_eq _ _ h]
 ·rw [h.1, eqDs_eq _ _ h.2]
 ·rw [h.1, h.2]
 ·rw [eqVs_eq _ _ h.1, eqDs_eq _ _ h.2]
 ·rw [eqD'_eq _ _ h.1, h.2.1, h.2.2.1, h.2.2.2]
 ·rfl
def eqOs : List AObj → List AObj → Bool
 | [], [] => true
 | a :: x, b :: y => eqO' a b && eqOs x y
 | _, _ => false
theorem eqOs_eq : ∀ (a b : List AObj), eqOs a b = true → a = b
 | [], b, h => by cases b <;> simp_all [eqOs]
 | a :: x, b, h => by
  cases b <;> simp only [eqOs, Bool.false_eq_true, Bool.and_eq_true] at h
  rw [eqO'_eq _ _ h.1, eqOs_eq _ _ h.2]
def eqSt (a b : St) : Bool := eqDs a.tmps b.tmps && eqOs a.heap b.heap
theorem eqSt_eq {a b : St} (h : eqSt a b = true) : a = b := by
 unfold eqSt at h
 rw [Bool.and_eq_true] at h
 cases a; cases b
 have h1 := eqDs_eq _ _ h.1
 have h2 := eqOs_eq _ _ h.2
 dsimp only at h1 h2
 rw [h1, h2]
def eqLS (a b : Array Bool × St) : Bool := decide (a.1.toList = b.1.toList) && eqSt a.2 b.2
theorem eqLS_eq {a b : Array Bool × St} (h : eqLS a b = true) : a = b := by
 unfold eqLS at h
 rw [Bool.and_eq_true, decide_eq_true_eq] at h
 exact Prod.ext (Array.ext' h.1) (eqSt_eq h.2)
def addLS (x : Array Bool × St) (l : List (Array Bool × St)) : List (Array Bool × St) := if l.any (eqLS x) then l else x :: l
theorem addLS_mem {x y : Array Bool × St} {l : List (Array Bool × St)} (h : y = x ∨ y ∈ l) : y ∈ addLS x l := by
 unfold addLS
 split
 ·rename_i ha
  rcases h with rfl | h
  ·obtain ⟨z, hz, e⟩ := List.any_eq_true.1 ha
   rw [eqLS_eq e]; exact hz
  ·exact h
 ·exact List.mem_cons.2 h
theorem set_getD {l : Array Bool} {i k : Nat} {d : Bool} (hi : i < l.size) : (l.setIfInBounds i true).getD k d = if k = i then true else l.getD k d := by
 simp only [Array.getD_eq_getD_getElem?, Array.getElem?_setIfInBounds]
 by_cases e : i = k
 ·subst e; simp [hi]
 ·rw [if_neg e, if_neg (Ne.symm e)]
theorem getD_lt {l : Array Bool} {i : Nat} (h : l.getD i true = false) : i < l.size := by
 rcases Nat.lt_or_ge i l.size with g | g
 ·exact g
 ·simp [Array.getD_eq_getD_getElem?, Array.getElem?_eq_none g] at h
theorem ready_of {ops : Array Oper} {listed : Array Bool} {i : Nat} {o : Oper} (h1 : i < ops.size) (h2 : listed.getD i true = false) (ho : ops[i]? = some o) (h3 : ∀ e ∈ o.after, Region.binds .any e = true → listed.getD e.on false = true) : i ∈ Region.ready .any ops listed := by
 unfold Region.ready
 rw [List.mem_filter, List.mem_range, Bool.and_eq_true]
 refine ⟨h1, by simpa using h2, ?_⟩
 rw [ho]
 simp only [Option.map_some, Option.getD_some, Array.all_eq_true_iff_forall_mem]
 intro e he
 rw [Bool.or_eq_true]
 by_cases hb : Region.binds .any e = true
 ·exact .inr (h3 e he hb)
 ·exact .inl (by simpa using hb)
def AllO (E : Env) (Γ : Calling) (ops : Array Oper) (L0 : Nat) (σ1 : St) : Nat → Array Bool → St → Prop
 | 0, listed, σ => Region.ready .any ops listed = [] ∧ canonS L0 σ = σ1
 | n + 1, listed, σ => (Region.ready .any ops listed = [] → canonS L0 σ = σ1) ∧ ∀ i ∈ Region.ready .any ops listed, ∃ o σ', ops[i]? = some o ∧ aop E Γ ops.toList o σ = some σ' ∧ AllO E Γ ops L0 σ1 n (listed.setIfInBounds i true) σ'
theorem AllO.sound {E : Env} {Γ : Calling} (hT : ∀ t i, E.T t = some i → tiOf P t = some i) (hΓ : CSound DR P Γ) {ops : Array Oper} {L0 : Nat} {σ1 : St} {Q : Exit → Act → World → Prop} {S0 : Nat → Nat → Prop} {β0 : Blocks} {w0 : World} (h0 : β0.length ≤ L0) (hQ : ∀ S' β' a' w', Inv S' β' σ1 a' w' → Ext DR S0 β0 w0 S' β' w' → Q .normal a' w') : ∀ (n : Nat) (listed : Array Bool) (σ : St), AllO E Γ ops L0 σ1 n listed σ → ∀ (S : Nat → Nat → Prop) (β : Blocks) (a : Act) (w : World), Inv S β σ a w → Ext DR S0 β0 w0 S β w → wpAny P .any ops Q n listed a w
 | 0, listed, σ, h, S, β, a, w, hI, hE => by
  refine ⟨h.1, ?_⟩
  obtain ⟨β2, g1, g2⟩ := canonS_same (DR := DR) (L0 := L0) (a := a) (w := w) σ S β hI
  rw [h.2] at g1
  exact hQ S β2 a w g1 (g2 S0 β0 w0 h0 hE)
 | n + 1, listed, σ, h, S, β, a, w, hI, hE => by
  refine ⟨fun hr => ?_, fun i hi => ?_⟩
  ·obtain ⟨β2, g1, g2⟩ := canonS_same (DR := DR) (L0 := L0) (a := a) (w := w) σ S β hI
   rw [h.1 hr] at g1
   exact hQ S β2 a w g1 (g2 S0 β0 w0 h0 hE)
  ·obtain ⟨o, σ', e1, e2, e3⟩ := h.2 i hi
   exact aop_sound hT hΓ e1 hI e2 fun S' β' a' w' hI' hE' => AllO.sound hT hΓ h0 hQ n _ σ' e3 S' β' a' w' hI' (hE.trans hE')
def growR (ops : Array Oper) (listed : Array Bool) (i : Nat) (R : List Nat) : List Nat := (List.range ops.size).filter fun j => !(j == i) && (!(listed.getD j true) && (match ops[j]? with
 | some o => o.after.all fun e => !Region.binds .any e || (listed.getD e.on false || R.contains e.on)
 | none => false))
theorem growR_of {ops : Array Oper} {listed : Array Bool} {i : Nat} {R : List Nat} {j : Nat} {o : Oper} (hj : j < ops.size) (hne : j ≠ i) (hl : listed.getD j true = false) (ho : ops[j]? = some o) (h : ∀ e ∈ o.after, Region.binds .any e = true → listed.getD e.on false = true ∨ e.on ∈ R) : j ∈ growR ops listed i R := by
 unfold growR
 rw [List.mem_filter, List.mem_range, Bool.and_eq_true, Bool.and_eq_true]
 refine ⟨hj, by simpa using hne, by simpa using hl, ?_⟩
 rw [ho]
 simp only [Array.all_eq_true_iff_forall_mem]
 intro e he
 rw [Bool.or_eq_true, Bool.or_eq_true]
 by_cases hb : Region.binds .any e = true
 ·rcases h e he hb with g | g
  ·exact .inr (.inl g)
  ·exact .inr (.inr (List.contains_iff_mem.2 g))
 ·exact .inl (by simpa using hb)
theorem growR_spec {ops : Array Oper} {listed : Array Bool} {i : Nat} {R : List Nat} {j : Nat} (h : j ∈ growR ops listed i R) : j < ops.size ∧ j ≠ i ∧ listed.getD j true = false ∧ ∃ o, ops[j]? = some o ∧ ∀ e ∈ o.after, Region.binds .any e = true → listed.getD e.on false = true ∨ e.on ∈ R := by
 unfold growR at h
 rw [List.mem_filter, List.mem_range, Bool.and_eq_true, Bool.and_eq_true] at h
 obtain ⟨h1, h2, h3, h4⟩ := h
 refine ⟨h1, by simpa using h2, by simpa using h3, ?_⟩
 split at h4
 ·rename_i o ho
  refine ⟨o, ho, fun e he hb => ?_⟩
  have := Array.all_eq_true_iff_forall_mem.1 h4 e he
  rw [hb] at this
  simp only [Bool.not_true, Bool.false_or, Bool.or_eq_true] at this
  exact this.imp_right List.contains_iff_mem.1
 ·cases h4
theorem AllO.por {E : Env} {Γ : Calling} {ops : Array Oper} {L0 : Nat} {σ1 : St} {i : Nat} {oi : Oper} (hoi : ops[i]? = some oi) {R : List Nat} (hc : ∀ j ∈ R, ∀ oj, ops[j]? = some oj → commutes E ops oi oj = true) : ∀ (n : Nat) (listed : Array Bool) (σ σ' : St), i ∈ Region.ready .any ops listed → (∀ j ∈ growR ops listed i R, j ∈ R) → aop E Γ ops.toList oi σ = some σ' → AllO E Γ ops L0 σ1 n (listed.setIfInBounds i true) σ' → AllO E Γ ops L0 σ1 (n + 1) listed σ
 | n, listed, σ, σ', hi, hR, ha, hA => by
  refine ⟨fun hr => (by rw [hr] at hi; cases hi), fun j hj => ?_⟩
  by_cases hji : j = i
  ·subst hji; exact ⟨oi, σ', hoi, ha, hA⟩
  ·obtain ⟨i1, i2, oi', i3, i4⟩ := ready_spec hi
   obtain ⟨j1, j2, oj, j3, j4⟩ := ready_spec hj
   have il := getD_lt i2
   have jl := getD_lt j2
   have hjR : j ∈ R := hR j (growR_of j1 hji j2 j3 fun e he hb => .inl (j4 e he hb))
   have hj' : j ∈ Region.ready .any ops (listed.setIfInBounds i true) := ready_of j1 (by rw [set_getD il, if_neg hji]; exact j2) j3 fun e he hb => by
    rw [set_getD il]; split
    ·rfl
    ·exact j4 e he hb
   cases n with
   | zero => rw [hA.1] at hj'; cases hj'
   | succ m =>
    obtain ⟨o2, σ'', k1, k2, k3⟩ := hA.2 j hj'
    rw [j3] at k1
    cases k1
    obtain ⟨σy, y1, y2⟩ := aop_comm (hc j hjR oj j3) ha k2
    refine ⟨oj, σy, j3, y1, ?_⟩
    have hij : i ≠ j := fun e => hji e.symm
    refine AllO.por hoi hc m (listed.setIfInBounds j true) σy σ'' (ready_of i1 (by rw [set_getD jl, if_neg hij]; exact i2) i3 fun e he hb => ?_) (fun q hq => ?_) y2 ?_
    ·rw [set_getD jl]; split
     ·rfl
     ·exact i4 e he hb
    ·obtain ⟨q1, q2, q3, oq, q4, q5⟩ := growR_spec hq
     refine hR q (growR_of q1 q2 ?_ q4 fun e he hb => ?_)
     ·rw [set_getD jl] at q3
      split at q3
      ·cases q3
      ·exact q3
     ·rcases q5 e he hb with g | g
      ·rw [set_getD jl] at g
       split at g
       ·rename_i e0; exact .inr (e0 ▸ hjR)
       ·exact .inl g
      ·exact .inr g
    ·rwa [Array.setIfInBounds_comm (h := hji)]
def growN (ops : Array Oper) (listed : Array Bool) (i : Nat) : Nat → List Nat → List Nat
 | 0, R => R
 | n + 1, R => let R' := growR ops listed i R; if R'.length == R.length then R else growN ops listed i n R'
def indepB (E : Env) (ops : Array Oper) (listed : Array Bool) (i : Nat) : Bool :=
 let R := growN ops listed i ops.size []
 (growR ops listed i R).all (fun j => R.contains j) && (match ops[i]? with
  | some oi => R.all fun j => match ops[j]? with
   | some oj => commutes E ops oi oj
   | none => true
  | none => false)
def pickS (E : Env) (ops : Array Oper) (listed : Array Bool) : List Nat := match (Region.ready .any ops listed).find? (indepB E ops listed) with
 | some i => [i]
 | none => Region.ready .any ops listed
def nextS (E : Env) (Γ : Calling) (ops : Array Oper) (x : Array Bool × St) : List Nat → List (Array Bool × St) → Option (List (Array Bool × St))
 | [], acc => some acc
 | i :: r, acc => match ops[i]? with
  | none => none
  | some o => match aop E Γ ops.toList o x.2 with
   | none => none
   | some σ' => nextS E Γ ops x r (addLS (x.1.setIfInBounds i true, σ') acc)
theorem nextS_mem {E : Env} {Γ : Calling} {ops : Array Oper} {x : Array Bool × St} : ∀ (l : List Nat) (acc out : List (Array Bool × St)), nextS E Γ ops x l acc = some out → (∀ y ∈ acc, y ∈ out) ∧ ∀ i ∈ l, ∃ o σ', ops[i]? = some o ∧ aop E Γ ops.toList o x.2 = some σ' ∧ (x.1.setIfInBounds i true, σ') ∈ out
 | [], acc, out, h => by simp only [nextS, Option.some.injEq] at h; subst h; exact ⟨fun y hy => hy, fun i hi => by cases hi⟩
 | i :: r, acc, out, h => by
  simp only [nextS] at h
  split at h
  ·cases h
  ·rename_i o ho
   split at h
   ·cases h
   ·rename_i σ' hσ
    obtain ⟨h1, h2⟩ := nextS_mem r _ out h
    refine ⟨fun y hy => h1 y (addLS_mem (.inr hy)), fun j hj => ?_⟩
    rcases List.mem_cons.1 hj with rfl | hj
    ·exact ⟨o, σ', ho, hσ, h1 _ (addLS_mem (.inl rfl))⟩
    ·exact h2 j hj
def levelS (E : Env) (Γ : Calling) (ops : Array Oper) : List (Array Bool × St) → List (Array Bool × St) → Option (List (Array Bool × St))
 | [], acc => some acc
 | x :: r, acc => match nextS E Γ ops x (pickS E ops x.1) acc with
  | none => none
  | some acc' => levelS E Γ ops r acc'
theorem levelS_mem {E : Env} {Γ : Calling} {ops : Array Oper} : ∀ (l acc out : List (Array Bool × St)), levelS E Γ ops l acc = some out → (∀ y ∈ acc, y ∈ out) ∧ ∀ x ∈ l, ∀ i ∈ pickS E ops x.1, ∃ o σ', ops[i]? = some o ∧ aop E Γ ops.toList o x.2 = some σ' ∧ (x.1.setIfInBounds i true, σ') ∈ out
 | [], acc, out, h => by simp only [levelS, Option.some.injEq] at h; subst h; exact ⟨fun y hy => hy, fun i hi => by cases hi⟩
 | x :: r, acc, out, h => by
  simp only [levelS] at h
  split at h
  ·cases h
  ·rename_i acc' ha
   obtain ⟨h1, h2⟩ := levelS_mem r acc' out h
   obtain ⟨g1, g2⟩ := nextS_mem _ _ _ ha
   refine ⟨fun y hy => h1 y (g1 y hy), fun z hz i hi => ?_⟩
   rcases List.mem_cons.1 hz with rfl | hz
   ·obtain ⟨o, σ', e1, e2, e3⟩ := g2 i hi
    exact ⟨o, σ', e1, e2, h1 _ e3⟩
   ·exact h2 z hz i hi
def allS (E : Env) (Γ : Calling) (ops : Array Oper) (L0 : Nat) (σ1 : St) : Nat → List (Array Bool × St) → Bool
 | 0, l => l.all fun x => (Region.ready .any ops x.1).isEmpty && eqSt (canonS L0 x.2) σ1
 | n + 1, l => l.all (fun x => !(Region.ready .any ops x.1).isEmpty || eqSt (canonS L0 x.2) σ1) && (match levelS E Γ ops l [] with
  | some l' => allS E Γ ops L0 σ1 n l'
  | none => false)
theorem allS_all {E : Env} {Γ : Calling} {ops : Array Oper} {L0 : Nat} {σ1 : St} : ∀ (n : Nat) (l : List (Array Bool × St)), allS E Γ ops L0 σ1 n l = true → ∀ x ∈ l, AllO E Γ ops L0 σ1 n x.1 x.2
 | 0, l, h, x, hx => by
  have h1 := List.all_eq_true.1 h x hx
  rw [Bool.and_eq_true] at h1
  exact ⟨List.isEmpty_iff.1 h1.1, eqSt_eq h1.2⟩
 | n + 1, l, h, x, hx => by
  simp only [allS, Bool.and_eq_true] at h
  obtain ⟨h1, h2⟩ := h
  split at h2
  case h_2 => cases h2
  rename_i l' hl
  have nx := (levelS_mem l [] l' hl).2 x hx
  unfold pickS at nx
  split at nx
  ·rename_i i hf
   obtain ⟨o, σ', e1, e2, e3⟩ := nx i (List.mem_singleton.2 rfl)
   have hin := List.mem_of_find?_eq_some hf
   have hb := List.find?_some hf
   unfold indepB at hb
   rw [Bool.and_eq_true] at hb
   obtain ⟨b1, b2⟩ := hb
   rw [e1] at b2
   refine AllO.por e1 (R := growN ops x.1 i ops.size []) (fun j hj oj hoj => ?_) n x.1 x.2 σ' hin (fun j hj => List.contains_iff_mem.1 (List.all_eq_true.1 b1 j hj)) e2 (allS_all n l' h2 _ e3)
   have := List.all_eq_true.1 b2 j hj
   rw [hoj] at this
   exact this
  ·refine ⟨fun hr => ?_, fun i hi => ?_⟩
   ·have := List.all_eq_true.1 h1 x hx
    rw [hr] at this
    exact eqSt_eq (by simpa using this)
   ·obtain ⟨o, σ', e1, e2, e3⟩ := nx i hi
    exact ⟨o, σ', e1, e2, allS_all n l' h2 _ e3⟩
theorem Ht.allRegion {E : Env} {Γ : Calling} (hm : P.follows .mixedOrders = true) (hT : ∀ t i, E.T t = some i → tiOf P t = some i) (hΓ : CSound DR P Γ) {p : Nat} {ops : Array Oper} {σ σ1 : St} {Q : Post} (h : allS E Γ ops σ.heap.length σ1 ops.size [(Array.replicate ops.size false, σ)] = true) (hq : Q .normal σ1) : Ht DR P (.region p ops true) σ Q := by
 intro S β a w hI
 have hI' : Inv S β σ a w.drew := ⟨hI.size, fun i v d g1 g2 => (hI.tmps i v d g1 g2).mono (w := w) (w' := w.drew) (fun _ _ h => ⟨h, rfl⟩) (fun _ _ h => h), hI.heap.drew, hI.defers⟩
 exact wp_region_any hm (AllO.sound hT hΓ (S0 := S) (β0 := β) (w0 := w) (by rw [hI.heap.len]; exact Nat.le_refl _) (fun S' β' a' w' hI2 hE2 => ⟨.normal, σ1, hq, rfl, S', β', hI2, hE2⟩) ops.size _ σ (allS_all ops.size _ h _ (List.mem_singleton.2 rfl)) S β a w.drew hI' (Ext.drew S β w))
def evl (body : St → Option (AExit × St)) : Nat → St → Option (AExit × St)
 | 0, _ => none
 | n + 1, σ => match body σ with
  | some (.normal, σ') => evl body n σ'
  | r => r
def ev (E : Env) (Γ : Calling) (n : Nat) : Code → St → Option (AExit × St)
 | .skip, σ => some (.normal, σ)
 | .region p ops draw, σ => match aeval E Γ ⟨fun _ => [], fun _ => [], fun _ => []⟩ [] n (.region p ops draw) σ with
  | some r => some r
  | none => if draw then (match aops E Γ ops.toList ops.toList σ with
   | some σ1 => if allS E Γ ops σ.heap.length (canonS σ.heap.length σ1) ops.size [(Array.replicate ops.size false, σ)] then some (.normal, canonS σ.heap.length σ1) else none
   | none => none) else (zops E Γ ops.toList ops.toList σ).map (.normal, ·)
 | .seq a b, σ => match ev E Γ n a σ with
  | some (.normal, σ') => ev E Γ n b σ'
  | r => r
 | .cond c t e, σ => match σ.ev c with
  | .v (.bool true) => ev E Γ n t σ
  | .v (.bool false) => ev E Γ n e σ
  | _ => none
 | .block id c, σ => match ev E Γ n c σ with
  | some (.exit id', σ') => if id' = id then some (.normal, σ') else some (.exit id', σ')
  | r => r
 | .loop c, σ => evl (ev E Γ n c) n (gridS σ)
 | .exit id, σ => some (.exit id, σ)
 | .ret, σ => some (.ret, σ)
 | _, _ => none
theorem ev_ht {E : Env} {Γ : Calling} (hm : P.follows .mixedOrders = true) (hT : ∀ t i, E.T t = some i → tiOf P t = some i) (hΓ : CSound DR P Γ) (n : Nat) : ∀ (c : Code) (σ : St) (e : AExit) (σ' : St), ev E Γ n c σ = some (e, σ') → ∀ {Q : Post}, Q e σ' → Ht DR P c σ Q := by
 have H : Hx DR P ⟨E, Γ, ⟨fun _ => [], fun _ => [], fun _ => []⟩, [], n⟩ := ⟨hm, hT, hΓ⟩
 intro c
 induction c with
 | skip => intro σ e σ' h Q hq; simp only [ev] at h; cases h; exact Ht.skip rfl hq
 | region p ops draw =>
  intro σ e σ' h Q hq
  simp only [ev] at h
  split at h
  ·rename_i r hr
   cases h
   exact Ht.of_wp H ⟨e, σ', hr, hq⟩
  ·split at h
   ·rename_i hd
    subst hd
    split at h
    ·rename_i σ1 _
     split at h
     ·rename_i ha
      cases h
      exact Ht.allRegion hm hT hΓ ha hq
     ·cases h
    ·cases h
   ·rename_i hd
    obtain ⟨σ1, h1, h2⟩ := Option.map_eq_some_iff.1 h
    cases h2
    rw [Bool.not_eq_true] at hd
    subst hd
    exact Ht.zregion hT hΓ h1 hq
 | seq a b iha ihb =>
  intro σ e σ' h Q hq
  simp only [ev] at h
  refine Ht.seq rfl ?_
  cases ha : ev E Γ n a σ with
  | none => rw [ha] at h; cases h
  | some r =>
   obtain ⟨e1, σ1⟩ := r
   rw [ha] at h
   cases e1 with
   | normal => exact iha σ _ σ1 ha (ihb σ1 e σ' h hq)
   | exit id => cases h; exact iha σ _ _ ha hq
   | ret => cases h; exact iha σ _ _ ha hq
 | cond c t e iht ihe =>
  intro σ ex σ' h Q hq
  simp only [ev] at h
  split at h
  ·rename_i hv
   exact Ht.cond true rfl hv (fun _ => iht σ ex σ' h hq) (fun h0 => by cases h0)
  ·rename_i hv
   exact Ht.cond false rfl hv (fun h0 => by cases h0) (fun _ => ihe σ ex σ' h hq)
  ·cases h
 | block id c ih =>
  intro σ e σ' h Q hq
  simp only [ev] at h
  refine Ht.block id rfl ?_
  cases ha : ev E Γ n c σ with
  | none => rw [ha] at h; cases h
  | some r =>
   obtain ⟨e1, σ1⟩ := r
   rw [ha] at h
   refine ih σ e1 σ1 ha ?_
   cases e1 with
   | normal => cases h; exact hq
   | exit id' =>
    dsimp only at h
    simp only [blkH]
    split at h
    ·rename_i e0; cases h; rw [if_pos e0]; exact hq
    ·rename_i e0; cases h; rw [if_neg e0]; exact hq
   | ret => cases h; exact hq
 | loop c ih =>
  intro σ e σ' h Q hq
  simp only [ev] at h
  refine Ht.gridL (List.range σ.heap.length) σ ?_
  refine Ht.loop (fun m τ => evl (ev E Γ n c) m τ = some (e, σ')) n rfl h ?_
  intro m τ hτ
  cases m with
  | zero => cases hτ
  | succ m =>
   simp only [evl] at hτ
   cases ha : ev E Γ n c τ with
   | none => rw [ha] at hτ; cases hτ
   | some r =>
    obtain ⟨e1, τ1⟩ := r
    rw [ha] at hτ
    refine ih τ e1 τ1 ha ?_
    cases e1 with
    | normal => exact ⟨m, Nat.lt_succ_self m, hτ⟩
    | exit id => cases hτ; exact hq
    | ret => cases hτ; exact hq
 | exit id => intro σ e σ' h Q hq; simp only [ev] at h; cases h; exact Ht.exit rfl hq
 | ret => intro σ e σ' h Q hq; simp only [ev] at h; cases h; exact Ht.ret rfl hq
 | _ => intro σ e σ' h Q hq; simp only [ev] at h; cases h
def run2 (P : Program) (E : FuncId → Env) (E1 : Env) (use : FuncId → Bool) : Nat → Calling
 | 0, _, _, _ => none
 | n + 1, f, ds, h => if use f then match P.funcs[f]? with
   | none => none
   | some fn => match fn.body with
    | none => none
    | some c => match ev (E f) (run2 P E E1 use n) n c ⟨ds ++ List.replicate (fn.ntmps - ds.length) U, h⟩ with
     | some (.normal, σ) => (resultsD (E f).T σ fn.results.toList).map (·, σ.heap)
     | some (.ret, σ) => (resultsD (E f).T σ fn.results.toList).map (·, σ.heap)
     | _ => none
  else run P E1 n f ds h
theorem run2_sound {E : FuncId → Env} {E1 : Env} (hG : Good DR P E1) (hT : ∀ f t i, (E f).T t = some i → tiOf P t = some i) {use : FuncId → Bool} (hU : ∀ f, use f = true → Is P f) : ∀ n, CSound DR P (run2 P E E1 use n)
 | 0 => fun f ds h d h' hd => by simp [run2] at hd
 | n + 1 => fun f ds h d h' hd => by
  have ih := run2_sound hG hT hU n
  simp only [run2] at hd
  split at hd
  case isFalse => exact run_sound hG n f ds h d h' hd
  rename_i hu
  refine ⟨hU f hu, ?_⟩
  split at hd
  case h_1 => cases hd
  rename_i fn hfn
  split at hd
  case h_1 => cases hd
  rename_i c hc
  have key : ∀ e σ, ev (E f) (run2 P E E1 use n) n c ⟨ds ++ List.replicate (fn.ntmps - ds.length) U, h⟩ = some (e, σ) → (e = .normal ∨ e = .ret) → (resultsD (E f).T σ fn.results.toList).map (·, σ.heap) = some (d, h') → CallT DR P f ds h fun d0 h0 => d0 = d ∧ h0 = h' := fun e σ he hee hr => by
   refine callT_of_ht (T := (E f).T) hfn hc (hT f) ?_
   have hb : bodyOf P f = c := by simp only [bodyOf, hfn, hc]
   have hs : startIn P f ds h = ⟨ds ++ List.replicate (fn.ntmps - ds.length) U, h⟩ := by simp only [startIn, hfn]
   have hres : resOf P f = fn.results.toList := by simp only [resOf, hfn]
   rw [hb, hs, hres]
   obtain ⟨d0, h1, h2⟩ := Option.map_eq_some_iff.1 hr
   cases h2
   exact ev_ht (E := E f) hG.mixed (hT f) ih n c _ e σ he ⟨hee, d, h1, rfl, rfl⟩
  have fin : CallT DR P f ds h fun d0 h0 => d0 = d ∧ h0 = h' := by
   split at hd
   ·rename_i σ he; exact key _ σ he (.inl rfl) hd
   ·rename_i σ he; exact key _ σ he (.inr rfl) hd
   ·cases hd
  intro S β w vs hr hi
  refine (fin S β w vs hr hi).mono ?_
  rintro e w' ⟨d0, h0, v, S', β', ⟨rfl, rfl⟩, q⟩
  exact ⟨v, S', β', q⟩
end Go.Abs
