import Derived.Test.YtgmbaemdedachaaAbsG
import Derived.Test.YtgmbaemdedachaaAbsHC
namespace Go.Abs
set_option linter.unusedVariables false
set_option linter.unusedSimpArgs false
set_option linter.unnecessarySimpa false
variable {DR : Prop}
def swL (L r : Nat) : Nat := if r = L then L + 1 else if r = L + 1 then L else r
theorem swL_sw (L r : Nat) : swL L (swL L r) = r := by
 by_cases h1 : r = L
 ·subst h1; simp [swL]
 ·by_cases h2 : r = L + 1
  ·subst h2; simp [swL]
  ·simp [swL, h1, h2]
theorem swL_old {L r : Nat} (h : r < L) : swL L r = r := by unfold swL; rw [if_neg om, if_neg om]
variable {DR : Prop}
def D.ren (g : Nat → Nat) : Nat → D → D
 | 0, _ => .undef
 | _ + 1, .undef => .undef
 | _ + 1, .v x => .v x
 | _ + 1, .ptr r o => .ptr (g r) o
 | _ + 1, .eptr r i o => .eptr (g r) i o
 | _ + 1, .vptr cs => .vptr cs
 | _ + 1, .map r => .map (g r)
 | _ + 1, .osl r a b c => .osl (g r) a b c
 | _ + 1, .tsl t es => .tsl (g t) es
 | n + 1, .func f a b => .func f (a.map (D.ren g n)) (b.map (D.ren g n))
 | n + 1, .agg cs => .agg (cs.map (D.ren g n))
 | n + 1, .tuple cs => .tuple (cs.map (D.ren g n))
 | n + 1, .box t d => .box t (D.ren g n d)
theorem RelD.ren {S : Nat → Nat → Prop} {β β' : Blocks} {w : World} {g : Nat → Nat} (hb : ∀ (r : Nat) x, β[r]? = some x → β'[g r]? = some x) : ∀ (n : Nat) {v : Value} {d : D}, RelD S β w v d → RelD S β' w v (d.ren g n)
 | 0, _, _, h => by simp only [D.ren]; exact .undef _
 | n + 1, _, _, h => by
  have lst : ∀ {vs : Array Value} {cs : List D}, (∀ (i : Nat) (u : Value) (x : D), vs[i]? = some u → cs[i]? = some x → RelD S β w u x) → ∀ (i : Nat) (u : Value) (x : D), vs[i]? = some u → (cs.map (D.ren g n))[i]? = some x → RelD S β' w u x := fun hr i u x h1 h2 => by
   rw [zG] at h2
   obtain ⟨y, hy, rfl⟩ := zB.1 h2
   exact RelD.ren hb n (hr i u y h1 hy)
  cases h with
  | undef _ => exact .undef _
  | v _ x h => exact .v _ x h
  | ptr r off b c k h => exact .ptr _ off b c k (hb _ _ h)
  | eptr r i off b c k p h hp => exact .eptr _ i off b c k p (hb _ _ h) hp
  | vptr b off cells vals hs hr => exact .vptr b off cells vals hs hr
  | map r b c k h => exact .map _ b c k (hb _ _ h)
  | osl r off len b c k p cap full h h2 hp hcap => exact .osl _ off len b c k p cap full (hb _ _ h) h2 hp hcap
  | tsl t b c k n es h hn hs hv => exact .tsl _ b c k n es (hb _ _ h) hn hs hv
  | func f first captured fs cs hl hl' hr hr' => exact .func f first captured _ _ (by rw [List.length_map]; exact hl) (by rw [List.length_map]; exact hl') (lst hr) (lst hr')
  | agg vs cs hl hr => exact .agg vs _ (by rw [List.length_map]; exact hl) (lst hr)
  | tuple vs cs hl hr => exact .tuple vs _ (by rw [List.length_map]; exact hl) (lst hr)
  | box t v d hr => exact .box t v _ (RelD.ren hb n hr)
def AObj.ren (g : Nat → Nat) : AObj → AObj
 | .cells cs => .cells (cs.map (D.ren g 5))
 | .grid k cs => .grid k (cs.map (D.ren g 5))
 | .map ks vs => .map ks (vs.map (D.ren g 5))
 | .iter m a b c => .iter (m.ren g 5) a b c
 | o => o
theorem AObj.ren_live (g : Nat → Nat) (o : AObj) : (o.ren g).live = o.live := by cases o <;> rfl
theorem AObj.ren_room (g : Nat → Nat) (o : AObj) : (o.ren g).room = o.room := by cases o <;> rfl
variable {S : Nat → Nat → Prop} {w : World} {β : Blocks}
theorem ObjRel.ren {β' : Blocks} {g : Nat → Nat} (hb : ∀ (r : Nat) x, β[r]? = some x → β'[g r]? = some x) {b c k : Nat} {o : AObj} (h : ObjRel S β w b c k o) : ObjRel S β' w b c k (o.ren g) := by
 have lst : ∀ {cs : List D} {j : Nat} {d : D}, (cs.map (D.ren g 5))[j]? = some d → ∃ e, cs[j]? = some e ∧ d = e.ren g 5 := fun h => by
  rw [zG] at h
  obtain ⟨y, hy, rfl⟩ := zB.1 h
  exact ⟨y, hy, rfl⟩
 cases o with
 | cells cs =>
  obtain ⟨h1, h2, h3, cur, e, h4, h5, h6⟩ := h
  exact ⟨h1, h2, by rw [List.length_map]; exact h3, cur, e, h4, h5, fun j v d hv hd => by obtain ⟨y, hy, rfl⟩ := lst hd; exact (h6 j v y hv hy).ren hb 5⟩
 | grid k' cs =>
  obtain ⟨h1, h0, h2, h3, cur, e, h4, h5, h6⟩ := h
  exact ⟨h1, h0, h2, by rw [List.length_map]; exact h3, cur, e, h4, h5, fun j v d hv hd => by obtain ⟨y, hy, rfl⟩ := lst hd; exact (h6 j v y hv hy).ren hb 5⟩
 | map ks vs =>
  obtain ⟨h1, h2, es, h3, h4, h5, h6, h7⟩ := h
  exact ⟨h1, by rw [List.length_map]; exact h2, es, h3, h4, h5, h6, fun i e d he hd => by obtain ⟨y, hy, rfl⟩ := lst hd; exact (h7 i e y he hy).ren hb 5⟩
 | iter m since seen last =>
  obtain ⟨h1, mv, h2, h3⟩ := h
  exact ⟨h1, mv, h2, h3.ren hb 5⟩
 | row k' es => exact h
 | tok k' n => exact h
 | dead => exact h
def swapL {α : Type} (L : Nat) (l : List α) : List α := match l[L]?, l[L + 1]? with
 | some a, some b => (l.set L b).set (L + 1) a
 | _, _ => l
variable {L : Nat} {α : Type}
theorem swapL_get {l : List α} (h : L + 1 < l.length) (r : Nat) : (swapL L l)[r]? = l[swL L r]? := by
 unfold swapL
 rw [zA (show L < l.length by omega), zA h]
 dsimp only
 unfold swL
 by_cases h1 : r = L
 ·subst h1
  rw [if_pos rfl, zO om, zQ om, zA h]
 ·by_cases h2 : r = L + 1
  ·subst h2
   rw [if_neg h1, if_pos rfl, zQ (by rw [zP]; exact h), zA (show L < l.length by omega)]
  ·rw [if_neg h1, if_neg h2, zO om, zO om]
theorem swapL_len (L : Nat) (l : List α) : (swapL L l).length = l.length := by
 unfold swapL
 split <;> simp
def swS (L : Nat) (σ : St) : St := ⟨σ.tmps.map (D.ren (swL L) 5), (swapL L σ.heap).map (AObj.ren (swL L))⟩
variable {a : Act}
theorem Inv.sw {σ : St} (hI : Inv S β σ a w) (hL : L + 1 < σ.heap.length) :
  ∃ β', Inv S β' (swS L σ) a w ∧ ∀ S0 β0 w0, β0.length ≤ L → Ext DR S0 β0 w0 S β w → Ext DR S0 β0 w0 S β' w := by
 have hlen : β.length = σ.heap.length := hI.heap.len
 have hLβ : L + 1 < β.length := by omega
 have hsw : ∀ r, (swapL L β)[r]? = β[swL L r]? := swapL_get hLβ
 have hsh : ∀ r, (swapL L σ.heap)[r]? = σ.heap[swL L r]? := swapL_get hL
 have hb : ∀ (r : Nat) x, β[r]? = some x → (swapL L β)[swL L r]? = some x := fun r x h => by rw [hsw, swL_sw]; exact h
 have ho : ∀ {r : Nat} {o : AObj}, (((swapL L σ.heap).map (AObj.ren (swL L))))[r]? = some o → ∃ o', σ.heap[swL L r]? = some o' ∧ o = o'.ren (swL L) := fun h => by
  rw [zG, hsh] at h
  obtain ⟨y, hy, rfl⟩ := zB.1 h
  exact ⟨y, hy, rfl⟩
 refine ⟨swapL L β, ⟨by rw [hI.size]; simp [swS], fun i v d h1 h2 => ?_, ⟨by rw [swapL_len, hlen]; simp [swS, swapL_len], fun r o b c k h1 h2 => ?_, fun r o b c k h1 l1 h2 => ?_, fun r r' o o' b c k c' k' h1 l1 h2 l2 h3 h4 => ?_, fun r o b c k i h1 l1 h2 hs => ?_, hI.heap.sb, hI.heap.gl, fun r b c k hr => by rw [hsw] at hr; exact hI.heap.dl _ _ _ _ hr⟩, hI.defers⟩, fun S0 β0 w0 h0 hE => ?_⟩
 ·have h2 : (σ.tmps.map (D.ren (swL L) 5))[i]? = some d := h2
  rw [zG] at h2
  obtain ⟨y, hy, rfl⟩ := zB.1 h2
  exact (hI.tmps i v y h1 hy).ren hb 5
 ·obtain ⟨o', e1, rfl⟩ := ho h1
  rw [hsw] at h2
  exact (hI.heap.obj _ o' b c k e1 h2).ren hb
 ·obtain ⟨o', e1, rfl⟩ := ho h1
  rw [hsw] at h2
  rw [AObj.ren_live] at l1
  exact hI.heap.lt _ o' b c k e1 l1 h2
 ·obtain ⟨o1, e1, rfl⟩ := ho h1
  obtain ⟨o2, e2, rfl⟩ := ho h2
  rw [AObj.ren_live] at l1 l2
  rw [hsw] at h3 h4
  have := hI.heap.inj _ _ o1 o2 b c k c' k' e1 l1 e2 l2 h3 h4
  have := congrArg (swL L) this
  rwa [swL_sw, swL_sw] at this
 ·obtain ⟨o1, e1, rfl⟩ := ho h1
  rw [AObj.ren_live] at l1
  rw [AObj.ren_room]
  rw [hsw] at h2
  exact hI.heap.own _ o1 b c k i e1 l1 h2 hs
 ·refine ⟨hE.keeps, fun r x hx => ?_, hE.size, hE.rest, fun r b c k hr => ?_, hE.os, hE.tape, hE.output, hE.drawn, hE.stay⟩
  ·rw [hsw, swL_old (by have := yE hx; omega)]
   exact hE.pre r x hx
  ·rw [hsw] at hr
   exact hE.fresh _ b c k hr
def firstRef (tmps : List D) (i : Nat) : Nat := tmps.findIdx fun d => d.ref? == some i
def passS : Nat → Nat → St → St
 | 0, _, σ => σ
 | n + 1, i, σ => passS n (i + 1) (if i + 1 < σ.heap.length ∧ firstRef σ.tmps (i + 1) < firstRef σ.tmps i then swS i σ else σ)
def canonN (L0 : Nat) : Nat → St → St
 | 0, σ => σ
 | n + 1, σ => canonN L0 n (passS (σ.heap.length - L0 - 1) L0 σ)
def canonS (L0 : Nat) (σ : St) : St := canonN L0 (σ.heap.length - L0 - 1) σ
def SameRun (DR : Prop) (L0 : Nat) (a : Act) (w : World) (σ σ' : St) : Prop := ∀ S β, Inv S β σ a w → ∃ β', Inv S β' σ' a w ∧ ∀ S0 β0 w0, β0.length ≤ L0 → Ext DR S0 β0 w0 S β w → Ext DR S0 β0 w0 S β' w
variable {L0 : Nat}
theorem SameRun.refl (σ : St) : SameRun DR L0 a w σ σ := fun S β hI => ⟨β, hI, fun _ _ _ _ h => h⟩
theorem SameRun.trans {σ1 σ2 σ3 : St} (h : SameRun DR L0 a w σ1 σ2) (g : SameRun DR L0 a w σ2 σ3) : SameRun DR L0 a w σ1 σ3 := fun S β hI => by
 obtain ⟨β1, h1, h2⟩ := h S β hI
 obtain ⟨β2, g1, g2⟩ := g S β1 h1
 exact ⟨β2, g1, fun S0 β0 w0 h0 hE => g2 S0 β0 w0 h0 (h2 S0 β0 w0 h0 hE)⟩
theorem passS_same {L0 : Nat} {a : Act} {w : World} : ∀ (n i : Nat) (σ : St), L0 ≤ i → SameRun DR L0 a w σ (passS n i σ)
 | 0, i, σ, h => .refl σ
 | n + 1, i, σ, h => by
  simp only [passS]
  split
  ·rename_i hc
   refine SameRun.trans (fun S β hI => ?_) (passS_same n (i + 1) _ om)
   obtain ⟨β', h1, h2⟩ := hI.sw (DR := DR) hc.1
   exact ⟨β', h1, fun S0 β0 w0 h0 hE => h2 S0 β0 w0 om hE⟩
  ·exact passS_same n (i + 1) σ om
theorem canonN_same {L0 : Nat} {a : Act} {w : World} : ∀ (n : Nat) (σ : St), SameRun DR L0 a w σ (canonN L0 n σ)
 | 0, σ => .refl σ
 | n + 1, σ => (passS_same _ L0 σ (zL _)).trans (canonN_same n _)
theorem canonS_same (σ : St) : SameRun DR L0 a w σ (canonS L0 σ) := canonN_same _ σ
variable {DR : Prop} {P : Program} {X : Cx}
def letTmps (o : Oper) : List Nat := match o.op with
 | .buildSlice _ _ parts => parts.toList.filterMap fun p => match p.2 with
  | .tmp t => some t
  | _ => none
 | .store _ _ (.tmp x) => [x]
 | .convert _ _ (.tmp x) => [x]
 | _ => []
def letAt (σ : St) (t : Nat) : St := match σ.tmps[t]? with
 | some (.osl r off len full) => match σ.heap[r]? with
  | some (.row k es) => match frz ((List.replicate σ.heap.length .dead).set r (.row k es)) 3 (.osl r off len full) with
   | some x => ⟨σ.tmps.set t (.v x), σ.heap.set r .dead⟩
   | none => σ
  | _ => σ
 | _ => σ
variable {σ : St}
theorem letAt_inv {S : Nat → Nat → Prop} {β : Blocks} {a : Act} {w : World} (hI : Inv S β σ a w) (t : Nat) : ∃ S', Inv S' β (letAt σ t) a w ∧ Ext DR S β w S' β w := by
 unfold letAt
 split
 case h_2 => exact ⟨S, hI, Ext.refl _ _ _⟩
 rename_i r off len full ht
 split
 case h_2 => exact ⟨S, hI, Ext.refl _ _ _⟩
 rename_i k es hr
 split
 case h_2 => exact ⟨S, hI, Ext.refl _ _ _⟩
 rename_i x hz
 have hlt := yE hr
 have b2 : ∀ (q : Nat) (y : AObj), ((List.replicate σ.heap.length AObj.dead).set r (.row k es))[q]? = some y → y.live = true → σ.heap[q]? = some y := fun q y h hy => by
  rw [zR] at h
  split at h
  ·rename_i e; subst e
   split at h
   ·cases h; exact hr
   ·cases h
  ·rw [zU] at h
   split at h
   ·cases h; cases hy
   ·cases h
 have b1 : ∀ (q : Nat) (y : AObj), (σ.heap.set r .dead)[q]? = some y → y.live = true → σ.heap[q]? = some y := fun q y h hy => by
  rw [zR] at h
  split at h
  ·cases h; cases hy
  ·exact h
 have dis : ∀ (q : Nat) (y z : AObj), (σ.heap.set r .dead)[q]? = some y → y.live = true → ((List.replicate σ.heap.length AObj.dead).set r (.row k es))[q]? = some z → z.live = true → False := fun q y z h hy g hz => by
  rw [zR] at h
  split at h
  ·cases h; cases hy
  ·rename_i hne
   rw [zO hne, zU] at g
   split at g
   ·cases g; cases hz
   ·cases g
 obtain ⟨hE, hI1⟩ := hI.heap.part (DR := DR) (h1 := σ.heap.set r .dead) (h2 := (List.replicate σ.heap.length AObj.dead).set r (.row k es)) (by simp) (by simp) b1 b2 dis
 have hk : Keeps S w (withOwn S β ((List.replicate σ.heap.length AObj.dead).set r (.row k es))) w := keeps_own S β _ w
 refine ⟨_, ⟨by rw [hI.size]; simp, fun i v d g1 g2 => ?_, hI1, hI.defers⟩, hE⟩
 have g3 : (σ.tmps.set t (.v x))[i]? = some d := g2
 clear g2
 rw [zR] at g3
 split at g3
 ·rename_i e
  subst e
  split at g3
  ·cases g3
   exact .v _ _ (frz_sound (hI.heap.sub (by simp) b2) 3 _ _ _ hz (hI.tmps t v _ g1 ht))
  ·cases g3
 ·exact (hI.tmps i v d g1 g3).mono hk fun _ _ h => h
def letS (o : Oper) (σ : St) : St := (letTmps o).foldl letAt σ
theorem letL_inv {β : Blocks} {a : Act} {w : World} : ∀ (l : List Nat) {S : Nat → Nat → Prop} {σ : St}, Inv S β σ a w → ∃ S', Inv S' β (l.foldl letAt σ) a w ∧ Ext DR S β w S' β w
 | [], S, σ, hI => ⟨S, hI, Ext.refl _ _ _⟩
 | t :: l, S, σ, hI => by
  obtain ⟨S1, h1, e1⟩ := letAt_inv (DR := DR) hI t
  obtain ⟨S2, h2, e2⟩ := letL_inv l h1
  exact ⟨S2, h2, e1.trans e2⟩
def zops (E : Env) (Γ : Calling) (ops : List Oper) : List Oper → St → Option St
 | [], σ => some σ
 | o :: r, σ => match aop E Γ ops o σ with
  | some σ' => zops E Γ ops r σ'
  | none => match aop E Γ ops o (letS o σ) with
   | some σ' => zops E Γ ops r σ'
   | none => none
theorem zops_sound {E : Env} {Γ : Calling} (hT : ∀ t i, E.T t = some i → tiOf P t = some i) (hΓ : CSound DR P Γ) {ops : Array Oper} {σ1 : St} {R : Exit → Act → World → Prop} : ∀ (l : List Oper) (i : Nat) {S : Nat → Nat → Prop} {β : Blocks} {σ : St} {a : Act} {w : World}, (∀ j o, l[j]? = some o → ops[i + j]? = some o) → zops E Γ ops.toList l σ = some σ1 → Inv S β σ a w →
  (∀ S' β' a' w', Inv S' β' σ1 a' w' → Ext DR S β w S' β' w' → wpOps P ops R [] a' w') → wpOps P ops R (List.range' i l.length) a w
 | [], i, S, β, σ, a, w, hl, h, hI, hk => by
  simp only [zops, Option.some.injEq] at h
  subst h
  exact hk S β a w hI (Ext.refl _ _ _)
 | o :: l, i, S, β, σ, a, w, hl, h, hI, hk => by
  have ho : ops[i]? = some o := hl 0 o rfl
  have hl' : ∀ j o', l[j]? = some o' → ops[i + 1 + j]? = some o' := fun j o' hj => by
   have := hl (j + 1) o' hj
   rwa [show i + (j + 1) = i + 1 + j by omega] at this
  simp only [zops] at h
  rw [List.length_cons, List.range'_succ, wpOps_cons]
  split at h
  ·rename_i σ2 h2
   exact aop_sound hT hΓ ho hI h2 (fun S1 β1 a1 w1 hI1 hE1 => zops_sound hT hΓ l (i + 1) hl' h hI1 fun S' β' a' w' hI' hE' => hk S' β' a' w' hI' (hE1.trans hE'))
  ·split at h
   ·rename_i σ2 h2
    obtain ⟨S0, hI0, hE0⟩ := letL_inv (DR := DR) (letTmps o) hI
    exact aop_sound hT hΓ ho hI0 h2 (fun S1 β1 a1 w1 hI1 hE1 => zops_sound hT hΓ l (i + 1) hl' h hI1 fun S' β' a' w' hI' hE' => hk S' β' a' w' hI' ((hE0.trans hE1).trans hE'))
   ·cases h
variable {ops : Array Oper}
theorem Ht.zregion {E : Env} {Γ : Calling} (hT : ∀ t i, E.T t = some i → tiOf P t = some i) (hΓ : CSound DR P Γ) {p : Nat} {σ' : St} {Q : Post} (h : zops E Γ ops.toList ops.toList σ = some σ') (hq : Q .normal σ') : Ht DR P (.region p ops false) σ Q := by
 intro S β a w hI
 refine wp_region ?_
 have := zops_sound (P := P) hT hΓ (ops := ops) (R := fun ex a' w' => ∃ e σ', Q e σ' ∧ Ends DR S β w e σ' ex a' w') ops.toList 0 (fun j o hj => by rw [Nat.zero_add, ← Array.getElem?_toList]; exact hj) h hI (fun S' β' a' w' hI' hE' => by
  unfold wpOps
  exact ⟨.normal, σ', hq, rfl, S', β', hI', hE'⟩)
 rw [List.range_eq_range']
 rw [← Array.length_toList]
 exact this
variable {i : Nat} {l : Array Bool}
theorem set_getD {k : Nat} {d : Bool} (hi : i < l.size) : (l.setIfInBounds i true).getD k d = if k = i then true else l.getD k d := by
 simp only [Array.getD_eq_getD_getElem?, Array.getElem?_setIfInBounds]
 by_cases e : i = k
 ·subst e; simp [hi]
 ·rw [if_neg e, if_neg (Ne.symm e)]
theorem getD_lt (h : l.getD i true = false) : i < l.size := by
 rcases Nat.lt_or_ge i l.size with g | g
 ·exact g
 ·simp [Array.getD_eq_getD_getElem?, Array.getElem?_eq_none g] at h
variable {listed : Array Bool} {o : Oper}
theorem ready_of (h1 : i < ops.size) (h2 : listed.getD i true = false) (ho : ops[i]? = some o) (h3 : ∀ e ∈ o.after, Region.binds .any e = true → listed.getD e.on false = true) : i ∈ Region.ready .any ops listed := by
 unfold Region.ready
 rw [List.mem_filter, List.mem_range, Bool.and_eq_true]
 refine ⟨h1, by simpa using h2, ?_⟩
 rw [ho]
 simp only [Option.map_some, Option.getD_some, Array.all_eq_true_iff_forall_mem]
 intro e he
 rw [Bool.or_eq_true]
 by_cases hb : Region.binds .any e = true
 ·exact .inr (h3 e he hb)
 ·exact .inl (by simpa using hb)
def AllO (E : Env) (Γ : Calling) (ops : Array Oper) (L0 : Nat) (σ1 : St) : Nat → Array Bool → St → Prop
 | 0, listed, σ => Region.ready .any ops listed = [] ∧ canonS L0 σ = σ1
 | n + 1, listed, σ => (Region.ready .any ops listed = [] → canonS L0 σ = σ1) ∧ ∀ i ∈ Region.ready .any ops listed, ∃ o σ', ops[i]? = some o ∧ aop E Γ ops.toList o σ = some σ' ∧ AllO E Γ ops L0 σ1 n (listed.setIfInBounds i true) σ'
theorem AllO.sound {E : Env} {Γ : Calling} (hT : ∀ t i, E.T t = some i → tiOf P t = some i) (hΓ : CSound DR P Γ) {ops : Array Oper} {L0 : Nat} {σ1 : St} {Q : Exit → Act → World → Prop} {S0 : Nat → Nat → Prop} {β0 : Blocks} {w0 : World} (h0 : β0.length ≤ L0) (hQ : ∀ S' β' a' w', Inv S' β' σ1 a' w' → Ext DR S0 β0 w0 S' β' w' → Q .normal a' w') : ∀ (n : Nat) (listed : Array Bool) (σ : St), AllO E Γ ops L0 σ1 n listed σ → ∀ (S : Nat → Nat → Prop) (β : Blocks) (a : Act) (w : World), Inv S β σ a w → Ext DR S0 β0 w0 S β w → wpAny P .any ops Q n listed a w
 | 0, listed, σ, h, S, β, a, w, hI, hE => by
  refine ⟨h.1, ?_⟩
  obtain ⟨β2, g1, g2⟩ := canonS_same (DR := DR) (L0 := L0) (a := a) (w := w) σ S β hI
  rw [h.2] at g1
  exact hQ S β2 a w g1 (g2 S0 β0 w0 h0 hE)
 | n + 1, listed, σ, h, S, β, a, w, hI, hE => by
  refine ⟨fun hr => ?_, fun i hi => ?_⟩
  ·obtain ⟨β2, g1, g2⟩ := canonS_same (DR := DR) (L0 := L0) (a := a) (w := w) σ S β hI
   rw [h.1 hr] at g1
   exact hQ S β2 a w g1 (g2 S0 β0 w0 h0 hE)
  ·obtain ⟨o, σ', e1, e2, e3⟩ := h.2 i hi
   exact aop_sound hT hΓ e1 hI e2 fun S' β' a' w' hI' hE' => AllO.sound hT hΓ h0 hQ n _ σ' e3 S' β' a' w' hI' (hE.trans hE')
def growR (ops : Array Oper) (listed : Array Bool) (i : Nat) (R : List Nat) : List Nat := (List.range ops.size).filter fun j => !(j == i) && (!(listed.getD j true) && (match ops[j]? with
 | some o => o.after.all fun e => !Region.binds .any e || (listed.getD e.on false || R.contains e.on)
 | none => false))
variable {R : List Nat} {j : Nat}
theorem growR_of (hj : j < ops.size) (hne : j ≠ i) (hl : listed.getD j true = false) (ho : ops[j]? = some o) (h : ∀ e ∈ o.after, Region.binds .any e = true → listed.getD e.on false = true ∨ e.on ∈ R) : j ∈ growR ops listed i R := by
 unfold growR
 rw [List.mem_filter, List.mem_range, Bool.and_eq_true, Bool.and_eq_true]
 refine ⟨hj, by simpa using hne, by simpa using hl, ?_⟩
 rw [ho]
 simp only [Array.all_eq_true_iff_forall_mem]
 intro e he
 rw [Bool.or_eq_true, Bool.or_eq_true]
 by_cases hb : Region.binds .any e = true
 ·rcases h e he hb with g | g
  ·exact .inr (.inl g)
  ·exact .inr (.inr (List.contains_iff_mem.2 g))
 ·exact .inl (by simpa using hb)
theorem growR_spec (h : j ∈ growR ops listed i R) : j < ops.size ∧ j ≠ i ∧ listed.getD j true = false ∧ ∃ o, ops[j]? = some o ∧ ∀ e ∈ o.after, Region.binds .any e = true → listed.getD e.on false = true ∨ e.on ∈ R := by
 unfold growR at h
 rw [List.mem_filter, List.mem_range, Bool.and_eq_true, Bool.and_eq_true] at h
 obtain ⟨h1, h2, h3, h4⟩ := h
 refine ⟨h1, by simpa using h2, by simpa using h3, ?_⟩
 split at h4
 ·rename_i o ho
  refine ⟨o, ho, fun e he hb => ?_⟩
  have := Array.all_eq_true_iff_forall_mem.1 h4 e he
  rw [hb] at this
  simp only [Bool.not_true, Bool.false_or, Bool.or_eq_true] at this
  exact this.imp_right List.contains_iff_mem.1
 ·cases h4
theorem AllO.por {E : Env} {Γ : Calling} {ops : Array Oper} {L0 : Nat} {σ1 : St} {i : Nat} {oi : Oper} (hoi : ops[i]? = some oi) {R : List Nat} (hc : ∀ j ∈ R, ∀ oj, ops[j]? = some oj → commutes E ops oi oj = true) : ∀ (n : Nat) (listed : Array Bool) (σ σ' : St), i ∈ Region.ready .any ops listed → (∀ j ∈ growR ops listed i R, j ∈ R) → aop E Γ ops.toList oi σ = some σ' → AllO E Γ ops L0 σ1 n (listed.setIfInBounds i true) σ' → AllO E Γ ops L0 σ1 (n + 1) listed σ
 | n, listed, σ, σ', hi, hR, ha, hA => by
  refine ⟨fun hr => (by rw [hr] at hi; cases hi), fun j hj => ?_⟩
  by_cases hji : j = i
  ·subst hji; exact ⟨oi, σ', hoi, ha, hA⟩
  ·obtain ⟨i1, i2, oi', i3, i4⟩ := ready_spec hi
   obtain ⟨j1, j2, oj, j3, j4⟩ := ready_spec hj
   have il := getD_lt i2
   have jl := getD_lt j2
   have hjR : j ∈ R := hR j (growR_of j1 hji j2 j3 fun e he hb => .inl (j4 e he hb))
   have hj' : j ∈ Region.ready .any ops (listed.setIfInBounds i true) := ready_of j1 (by rw [set_getD il, if_neg hji]; exact j2) j3 fun e he hb => by
    rw [set_getD il]; split
    ·rfl
    ·exact j4 e he hb
   cases n with
   | zero => rw [hA.1] at hj'; cases hj'
   | succ m =>
    obtain ⟨o2, σ'', k1, k2, k3⟩ := hA.2 j hj'
    rw [j3] at k1
    cases k1
    obtain ⟨σy, y1, y2⟩ := aop_comm (hc j hjR oj j3) ha k2
    refine ⟨oj, σy, j3, y1, ?_⟩
    have hij : i ≠ j := fun e => hji e.symm
    refine AllO.por hoi hc m (listed.setIfInBounds j true) σy σ'' (ready_of i1 (by rw [set_getD jl, if_neg hij]; exact i2) i3 fun e he hb => ?_) (fun q hq => ?_) y2 ?_
    ·rw [set_getD jl]; split
     ·rfl
     ·exact i4 e he hb
    ·obtain ⟨q1, q2, q3, oq, q4, q5⟩ := growR_spec hq
     refine hR q (growR_of q1 q2 ?_ q4 fun e he hb => ?_)
     ·rw [set_getD jl] at q3
      split at q3
      ·cases q3
      ·exact q3
     ·rcases q5 e he hb with g | g
      ·rw [set_getD jl] at g
       split at g
       ·rename_i e0; exact .inr (e0 ▸ hjR)
       ·exact .inl g
      ·exact .inr g
    ·rwa [Array.setIfInBounds_comm (h := hji)]
def growN (ops : Array Oper) (listed : Array Bool) (i : Nat) : Nat → List Nat → List Nat
 | 0, R => R
 | n + 1, R => let R' := growR ops listed i R; if R'.length == R.length then R else growN ops listed i n R'
def indepB (E : Env) (ops : Array Oper) (listed : Array Bool) (i : Nat) : Bool :=
 let R := growN ops listed i ops.size []
 (growR ops listed i R).all (fun j => R.contains j) && (match ops[i]? with
  | some oi => R.all fun j => match ops[j]? with
   | some oj => commutes E ops oi oj
   | none => true
  | none => false)
end Go.Abs
