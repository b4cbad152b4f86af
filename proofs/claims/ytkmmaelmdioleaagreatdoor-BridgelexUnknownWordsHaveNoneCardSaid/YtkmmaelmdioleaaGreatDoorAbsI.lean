import Derived.Test.YtkmmaelmdioleaaGreatDoorAbsF
namespace Go.Abs
set_option linter.unusedVariables false
set_option linter.unusedSimpArgs false
set_option linter.unnecessarySimpa false
variable {DR : Prop}
theorem skip_alloc {S : Nat → Nat → Prop} {β : Blocks} {w : World} {h : List AObj} (hi : HInv S β w h) (o : Obj) : Ext DR S β w S β (w.alloc o) ∧ HInv S β (w.alloc o) h := by
 have hk := keeps_alloc hi o S (fun _ _ h => h)
 constructor
 ·exact ⟨hk, fun _ _ h => h, by simp, fun b hb _ => heap_alloc_old w _ b hb, fun r b c k hr => .inr ⟨r, c, k, hr⟩, rfl, rfl, rfl, fun _ => Nat.le_refl _, fun _ _ h => .inl h⟩
 ·refine ⟨hi.len, fun r o' b c k h1 h2 => (hi.obj r o' b c k h1 h2).mono hk (fun _ _ h => h) (fun hl => heap_alloc_old w _ b (hi.lt r o' b c k h1 hl h2)), fun r o' b c k h1 l1 h2 => ?_, hi.inj, hi.own, fun b i hs => ?_, hi.gl.mono hk, fun r b c k hr => by have := hi.dl _ _ _ _ hr; simp; omega⟩
  ·have := hi.lt r o' b c k h1 l1 h2; simp; omega
  ·have := hi.sb b i hs; simp; omega
theorem adopt {S : Nat → Nat → Prop} {β : Blocks} {w : World} {h : List AObj} (hi : HInv S β w h) {b c : Nat} (hb : b < w.heap.size) (hβ : ∀ r c k : Nat, β[r]? ≠ some (b, c, k + 1)) (hS : ∀ i, ¬ S b i) {o : AObj} (ho : ObjRel S (β ++ [(b, c, 1)]) w b c 1 o) :
  HInv S (β ++ [(b, c, 1)]) w (h ++ [o]) := by
 have hp : ∀ (r : Nat) x, β[r]? = some x → (β ++ [(b, c, 1)])[r]? = some x := fun r x hx => (getElem?_snoc _ _ _ _).2 (.inl ⟨hx, lt_of_getElem? hx⟩)
 have hK : Keeps S w S w := fun _ _ h => ⟨h, rfl⟩
 have hlen := hi.len
 have two : ∀ (r : Nat) (o' : AObj) x, (h ++ [o])[r]? = some o' → (β ++ [(b, c, 1)])[r]? = some x → (h[r]? = some o' ∧ β[r]? = some x) ∨ (r = h.length ∧ o' = o ∧ x = (b, c, 1)) := by
  intro r o' x g1 g2
  rcases (getElem?_snoc _ _ _ _).1 g1 with ⟨g1, l1⟩ | ⟨e1, g1⟩ <;> rcases (getElem?_snoc _ _ _ _).1 g2 with ⟨g2, l2⟩ | ⟨e2, g2⟩
  ·exact .inl ⟨g1, g2⟩
  ·omega
  ·omega
  ·exact .inr ⟨e1, g1.symm, g2.symm⟩
 refine ⟨by simp [hlen], fun r o' b' c' k' h1 h2 => ?_, fun r o' b' c' k' h1 l1 h2 => ?_, fun r r' o1 o2 b' c1 k1 c2 k2 h1 l1 h2 l2 h3 h4 => ?_, fun r o' b' c' k' i h1 l1 h2 hs => ?_, hi.sb, hi.gl, fun r b' c' k' hr => ?_⟩
 ·rcases two r o' _ h1 h2 with ⟨g1, g2⟩ | ⟨_, rfl, g2⟩
  ·exact (hi.obj r o' b' c' k' g1 g2).mono hK hp (fun _ => rfl)
  ·cases g2; exact ho
 ·rcases two r o' _ h1 h2 with ⟨g1, g2⟩ | ⟨_, rfl, g2⟩
  ·exact hi.lt r o' b' c' k' g1 l1 g2
  ·cases g2; exact hb
 ·rcases two r o1 _ h1 h3 with ⟨g1, g2⟩ | ⟨e1, _, g2⟩ <;> rcases two r' o2 _ h2 h4 with ⟨g3, g4⟩ | ⟨e2, _, g4⟩
  ·exact hi.inj r r' o1 o2 b' c1 k1 c2 k2 g1 l1 g3 l2 g2 g4
  ·cases g4
   obtain ⟨k0, rfl⟩ := hi.kpos g1 l1 g2
   exact absurd g2 (hβ _ _ _)
  ·cases g2
   obtain ⟨k0, rfl⟩ := hi.kpos g3 l2 g4
   exact absurd g4 (hβ _ _ _)
  ·omega
 ·rcases two r o' _ h1 h2 with ⟨g1, g2⟩ | ⟨_, rfl, g2⟩
  ·exact hi.own r o' b' c' k' i g1 l1 g2 hs
  ·cases g2; exact absurd hs (hS i)
 ·rcases (getElem?_snoc _ _ _ _).1 hr with ⟨g, _⟩ | ⟨_, g⟩
  ·exact hi.dl _ _ _ _ g
  ·cases g; exact hb
def St.und (σ : St) (t : Nat) : St := ⟨σ.tmps.set t .undef, σ.heap⟩
theorem aop_und {E : Env} {Γ : Calling} {ops : Array Oper} {o : Oper} {σ σ1 : St} {t : Nat} (hl : t ∉ o.looksAt ops) (hd : o.dst ≠ some t) (h : aop E Γ ops.toList o σ = some σ1) : aop E Γ ops.toList o (σ.und t) = some (σ1.und t) := by
 have e0 : σ.und t = σ.put (some t) .undef σ.heap := rfl
 unfold aop at h ⊢
 rw [e0, aeff_put (dst := some t) (d := .undef) (fun u hu => by cases hu; exact hl)]
 split at h
 ·rename_i d h' he
  cases h
  have e1 := put_put (σ := σ) (x := some t) (y := o.dst) (d := .undef) (e := d) (h := σ.heap) (g := h') (fun u hu => by cases hu; exact hd)
  rw [e1]
  refine congrArg some ?_
  cases o.dst <;> rfl
 ·cases h
theorem aidx_und {E : Env} {Γ : Calling} {ops : Array Oper} {t : Nat} : ∀ (l : List Nat) (σ σ1 : St), (∀ i ∈ l, ∃ o, ops[i]? = some o ∧ t ∉ o.looksAt ops ∧ o.dst ≠ some t) → aidx E Γ ops l σ = some σ1 → aidx E Γ ops l (σ.und t) = some (σ1.und t)
 | [], σ, σ1, _, h => by
  simp only [aidx, Option.some.injEq] at h ⊢
  rw [h]
 | i :: r, σ, σ1, hl, h => by
  obtain ⟨o, h1, h2, h3⟩ := hl i List.mem_cons_self
  simp only [aidx, h1] at h ⊢
  split at h
  ·rename_i σ2 h4
   rw [aop_und h2 h3 h4]
   exact aidx_und r σ2 σ1 (fun j hj => hl j (List.mem_cons_of_mem _ hj)) h
  ·cases h
theorem aidx_append {E : Env} {Γ : Calling} {ops : Array Oper} : ∀ (l l' : List Nat) (σ : St), aidx E Γ ops (l ++ l') σ = (aidx E Γ ops l σ).bind (aidx E Γ ops l')
 | [], l', σ => rfl
 | i :: r, l', σ => by
  simp only [List.cons_append, aidx]
  split
  ·split
   ·exact aidx_append r l' _
   ·rfl
  ·rfl
theorem aidx_late {E : Env} {Γ : Calling} {ops : Array Oper} {q : Nat} {oq : Oper} (hq : ops[q]? = some oq) : ∀ (mid : List Nat) (σ σ' : St), (∀ j ∈ mid, ∃ oj, ops[j]? = some oj ∧ commutes E ops oq oj = true) →
  aidx E Γ ops (q :: mid) σ = some σ' → ∃ σ1, aidx E Γ ops mid σ = some σ1 ∧ aop E Γ ops.toList oq σ1 = some σ'
 | [], σ, σ', _, h => by
  simp only [aidx, hq] at h
  refine ⟨σ, rfl, ?_⟩
  split at h
  ·rename_i σ2 h2
   cases h; exact h2
  ·cases h
 | j :: r, σ, σ', hc, h => by
  obtain ⟨oj, hj, hcom⟩ := hc j List.mem_cons_self
  simp only [aidx, hq, hj] at h
  split at h
  ·rename_i σa ha
   split at h
   ·rename_i σb hb
    obtain ⟨σ3, h3, h4⟩ := aop_comm hcom ha hb
    obtain ⟨σ1, h5, h6⟩ := aidx_late (Γ := Γ) hq r σ3 σ' (fun k hk => hc k (List.mem_cons_of_mem _ hk)) (by simp only [aidx, hq, h4]; exact h)
    exact ⟨σ1, by simp only [aidx, hj, h3]; exact h5, h6⟩
   ·cases h
  ·cases h
theorem getD_set (listed : Array Bool) (i q : Nat) : (listed.setIfInBounds i true).getD q true = if i = q then true else listed.getD q true := by
 simp only [Array.getD_eq_getD_getElem?, Array.getElem?_setIfInBounds]
 split
 ·split <;> rfl
 ·rfl
theorem least {p : Nat → Prop} : ∀ n, p n → ∃ m, p m ∧ ∀ k, k < m → ¬ p k := by
 intro n
 induction n using Nat.strongRecOn with
 | _ n ih =>
  intro hn
  by_cases h : ∃ k, k < n ∧ p k
  ·obtain ⟨k, hk, hp⟩ := h
   exact ih k hk hp
  ·exact ⟨n, hn, fun k hk hp => h ⟨k, hk, hp⟩⟩
theorem ready_some {ops : Array Oper} {listed : Array Bool} (hs : listed.size = ops.size) (hf : ops.toList.zipIdx.all (fun x => x.1.after.all fun e => !Region.binds .any e || decide (e.on < x.2)) = true) {i : Nat} (hi : i < ops.size) (hl : listed.getD i true = false) : Region.ready .any ops listed ≠ [] := by
 obtain ⟨m, ⟨m1, m2⟩, m3⟩ := least (p := fun i => i < ops.size ∧ listed.getD i true = false) i ⟨hi, hl⟩
 intro hnil
 have : m ∈ Region.ready .any ops listed := by
  unfold Region.ready
  rw [List.mem_filter, List.mem_range, Bool.and_eq_true]
  refine ⟨m1, by simpa using m2, ?_⟩
  rw [Array.getElem?_eq_getElem m1]
  simp only [Option.map_some, Option.getD_some, Array.all_eq_true_iff_forall_mem]
  intro e he
  rw [Bool.or_eq_true]
  by_cases hb : Region.binds .any e = true
  ·right
   have hz := List.all_eq_true.1 hf (ops[m], m) (by
    rw [List.mem_zipIdx_iff_getElem?]
    simp [Array.getElem?_eq_getElem m1])
   have hz' := Array.all_eq_true_iff_forall_mem.1 hz e he
   rw [hb] at hz'
   have hlt : e.on < m := by simpa using hz'
   have hon : e.on < ops.size := by omega
   have : ¬ listed.getD e.on true = false := fun h => m3 e.on hlt ⟨hon, h⟩
   simpa [Array.getD, hs, hon] using this
  ·left; simpa using hb
 rw [hnil] at this
 cases this
structure Pend (z : Value) (e : TypeId) (t b n0 : Nat) (S : Nat → Nat → Prop) (β : Blocks) (a : Act) (w : World) : Prop where
 tmp : t < a.tmps.size → a.tmps[t]? = some (.pointer (some ⟨b, 0, none⟩))
 new : n0 ≤ b
 lt : b < w.heap.size
 nb : ∀ r c k : Nat, β[r]? ≠ some (b, c, k + 1)
 ns : ∀ i, ¬ S b i
 at_ : w.heap[b]? = some (.cells z.cells e (0, 0))
theorem Pend.step {z v : Value} {e : TypeId} {t b n0 : Nat} {S S' : Nat → Nat → Prop} {β β' : Blocks} {a : Act} {w w' : World} {dst : Option Tmp} (h : Pend z e t b n0 S β a w) (hE : Ext DR S β w S' β' w') (hd : dst ≠ some t) : Pend z e t b n0 S' β' (a.put dst v) w' := by
 refine ⟨?_, h.new, Nat.lt_of_lt_of_le h.lt hE.size, fun r c k hr => ?_, fun i hs => ?_, (hE.rest b h.lt h.nb).trans h.at_⟩
 ·cases dst with
  | none => exact h.tmp
  | some u =>
   have hne : u ≠ t := fun e => hd (by rw [e])
   simp only [Act.put, Array.getElem?_setIfInBounds_ne hne, Array.size_setIfInBounds]
   exact h.tmp
 ·rcases hE.fresh r b c k hr with g | ⟨r', c', k', g⟩
  ·have := h.lt; omega
  ·exact h.nb _ _ _ g
 ·rcases hE.stay b i hs with g | g | ⟨r, c, k, g⟩
  ·exact h.ns i g
  ·have := h.lt; omega
  ·exact h.nb _ _ _ g
structure RemL (ops : Array Oper) (q z : Nat) (listed : Array Bool) (rem : List Nat) (pq : Bool) : Prop where
 size : listed.size = ops.size
 sorted : rem.Pairwise (· < ·)
 mem : ∀ i, i ∈ rem ↔ i < z ∧ i ≠ q ∧ listed.getD i true = false
 zl : listed.getD z true = false
 ql : listed.getD q true = pq
 closed : ∀ (i : Nat) o (e : Edge), i < ops.size → listed.getD i true = true → ops[i]? = some o → e ∈ o.after → Region.binds .any e = true → listed.getD e.on false = true
theorem reach_listedL {ops : Array Oper} {listed : Array Bool} (hsz : listed.size = ops.size) (hcl : ∀ (i : Nat) o (e : Edge), i < ops.size → listed.getD i true = true → ops[i]? = some o → e ∈ o.after → Region.binds .any e = true → listed.getD e.on false = true) : ∀ {j i : Nat}, Reach ops j i → (∀ (o : Oper) (e : Edge), ops[i]? = some o → e ∈ o.after → Region.binds .any e = true → listed.getD e.on false = true) → listed.getD j false = true := by
 intro j i h
 induction h with
 | edge i o e ho he hb => exact fun hall => hall o e ho he hb
 | step i j o e ho he hb hr ih =>
  intro hall
  have hon := hall o e ho he hb
  refine ih (fun o' e' ho' he' hb' => ?_)
  have hlt : e.on < ops.size := (Array.getElem?_eq_some_iff.1 ho').1
  exact hcl e.on o' e' hlt (by simpa [Array.getD, hsz, hlt] using hon) ho' he' hb'
theorem closed_set {ops : Array Oper} {listed : Array Bool} {i : Nat} {oi : Oper} (hsz : listed.size = ops.size) (hoi : ops[i]? = some oi) (hall : ∀ e ∈ oi.after, Region.binds .any e = true → listed.getD e.on false = true)
  (hcl : ∀ (i : Nat) o (e : Edge), i < ops.size → listed.getD i true = true → ops[i]? = some o → e ∈ o.after → Region.binds .any e = true → listed.getD e.on false = true) :
  ∀ (q : Nat) o (e : Edge), q < ops.size → (listed.setIfInBounds i true).getD q true = true → ops[q]? = some o → e ∈ o.after → Region.binds .any e = true → (listed.setIfInBounds i true).getD e.on false = true := by
 intro q o e hq hlq ho he hb
 have i1 : i < ops.size := (Array.getElem?_eq_some_iff.1 hoi).1
 have hup : ∀ x, listed.getD x false = true → (listed.setIfInBounds i true).getD x false = true := by
  intro x hx
  simp only [Array.getD_eq_getD_getElem?, Array.getElem?_setIfInBounds] at hx ⊢
  split
  ·rename_i hix
   subst hix
   rw [if_pos (by rw [hsz]; exact i1)]; rfl
  ·exact hx
 by_cases hqi : i = q
 ·subst hqi
  rw [hoi] at ho
  cases ho
  exact hup _ (hall e he hb)
 ·refine hup _ (hcl q o e hq ?_ ho he hb)
  rw [getD_set, if_neg hqi] at hlq
  exact hlq
theorem getD_tf {listed : Array Bool} {i : Nat} (h : i < listed.size) : listed.getD i false = listed.getD i true := by
 simp [Array.getD, h]
theorem late_sound {P : Program} {E : Env} {Γ : Calling} (hT : ∀ t i, E.T t = some i → tiOf P t = some i) (hΓ : CSound DR P Γ) {ops : Array Oper} {q z t e : Nat} {oq oz : Oper} {zv : Value} {ti : TI}
  (hback : ops.toList.zipIdx.all (fun x => x.1.after.all fun e => !Region.binds .any e || decide (e.on < x.2)) = true) (hqz : q < z) (hz : z + 1 = ops.size)
  (hoq : ops[q]? = some oq) (hop : oq.op = .alloc e) (hgu : oq.guard = none) (hds : oq.dst = some t) (hoz : ops[z]? = some oz) (hlast : ∀ i, i < z → Reach ops i z)
  (hfree : ∀ i, i < z → i ≠ q → ∃ y, ops[i]? = some y ∧ t ∉ y.looksAt ops ∧ y.dst ≠ some t)
  (hcom : ∀ i j, i < z → j < i → i ≠ q → j ≠ q → Reach ops j i ∨ ∃ x y, ops[j]? = some x ∧ ops[i]? = some y ∧ commutes E ops x y = true)
  (hti : E.T e = some ti) (hzv : ofValue zv = some ti.zero) (hrun : ∀ (a : Act) (w : World), (execOp a.eval oq).run P w = .ok (.value (.pointer (some ⟨w.heap.size, 0, none⟩))) (w.alloc (.cells zv.cells e)))
  {Q : Exit → Act → World → Prop} {S0 : Nat → Nat → Prop} {β0 : Blocks} {w0 : World} : ∀ (fuel : Nat) (rem : List Nat) (listed : Array Bool) (pb : Option Nat) {S : Nat → Nat → Prop} {β : Blocks} {σ σ1 σ2 σ' : St} {a : Act} {w : World},
  rem.length + (if pb.isSome = true then 1 else 2) = fuel → RemL ops q z listed rem pb.isSome → Inv S β σ a w → σ.und t = σ → aidx E Γ ops rem σ = some σ1 → aop E Γ ops.toList oq σ1 = some σ2 → aop E Γ ops.toList oz σ2 = some σ' →
  (∀ b, pb = some b → Pend zv e t b w0.heap.size S β a w) → Ext DR S0 β0 w0 S β w → (∀ S' β' a' w', Inv S' β' σ' a' w' → Ext DR S0 β0 w0 S' β' w' → Q .normal a' w') → wpAny P .any ops Q fuel listed a w := by
 intro fuel
 induction fuel with
 | zero =>
  intro rem listed pb S β σ σ1 σ2 σ' a w hl
  split at hl <;> omega
 | succ fuel ih =>
  intro rem listed pb S β σ σ1 σ2 σ' a w hl hR hI hu hs h1 h2 hp hE hQ
  have hzs : z < ops.size := by omega
  refine ⟨fun hready => absurd hready (ready_some hR.size hback hzs hR.zl), fun i hi => ?_⟩
  obtain ⟨i1, i2, oi, hoi, hall⟩ := ready_spec hi
  by_cases hiz : i = z
  ·subst hiz
   have hdone : ∀ j, j < i → listed.getD j true = true := fun j hj => by
    have := reach_listedL hR.size hR.closed (hlast j hj) (fun o e ho he hb => by rw [hoi] at ho; cases ho; exact hall e he hb)
    rw [getD_tf (by rw [hR.size]; omega)] at this
    exact this
   have hrem : rem = [] := by
    cases rem with
    | nil => rfl
    | cons m r =>
     have := (hR.mem m).1 List.mem_cons_self
     rw [hdone m this.1] at this
     exact absurd this.2.2 (by simp)
   subst hrem
   simp only [aidx, Option.some.injEq] at hs
   subst hs
   have hpb : pb.isSome = true := by rw [← hR.ql]; exact hdone q hqz
   obtain ⟨b, rfl⟩ := Option.isSome_iff_exists.1 hpb
   have P0 := hp b rfl
   -- the allocation, told of now
   have hzs : RelD S β w zv (.v ti.zero) := .v _ _ (ofValue_rel hzv)
   obtain ⟨c1, c2⟩ := hzs.cells (ofValue_solid hzv)
   unfold aop aeff aguard at h1
   simp only [hgu, hop, ares, hti, hds] at h1
   split at h1
   ·rename_i d h' he
    cases h1
    split at he
    ·rename_i hm
     obtain ⟨rfl, rfl⟩ := Prod.mk.inj (Option.some.inj he)
     have hm' : (D.v ti.zero).cells.length ≤ maxLen := by simpa [D.cells] using hm
     have hp' : ∀ (r : Nat) x, β[r]? = some x → (β ++ [(b, (D.v ti.zero).cells.length, 1)])[r]? = some x := fun r x hx => (getElem?_snoc _ _ _ _).2 (.inl ⟨hx, lt_of_getElem? hx⟩)
     have hK : Keeps S w S w := fun _ _ h => ⟨h, rfl⟩
     have hH : HInv S (β ++ [(b, (D.v ti.zero).cells.length, 1)]) w (σ.heap ++ [.cells (ti.zero.cells.map .v)]) :=
      adopt hI.heap P0.lt P0.nb P0.ns ⟨rfl, hm', rfl, zv.cells, e, P0.at_, c1, fun j v d hv hd => (c2 j v d hv hd).mono hK hp'⟩
     have hX : Ext DR S β w S (β ++ [(b, (D.v ti.zero).cells.length, 1)]) w → True := fun _ => trivial
     have hE2 : Ext DR S0 β0 w0 S (β ++ [(b, (D.v ti.zero).cells.length, 1)]) w :=
      ⟨hE.keeps, fun r x hx => hp' r x (hE.pre r x hx), hE.size, hE.rest, fun r b' c' k' hr => by
       rcases (getElem?_snoc _ _ _ _).1 hr with ⟨g, _⟩ | ⟨_, g⟩
       ·exact hE.fresh r b' c' k' g
       ·cases g; exact .inl P0.new, hE.os, hE.tape, hE.output, hE.drawn, hE.stay⟩
     have hI2 : Inv S (β ++ [(b, (D.v ti.zero).cells.length, 1)]) (σ.put (some t) (.ptr σ.heap.length 0) (σ.heap ++ [.cells (ti.zero.cells.map .v)])) a w := by
      refine ⟨by simp [St.put, hI.size], fun k v d g1 g2 => ?_, hH, hI.defers⟩
      simp only [St.put, List.getElem?_set] at g2
      by_cases hk : t = k
      ·subst hk
       rw [if_pos rfl] at g2
       split at g2
       case isFalse => cases g2
       cases g2
       rw [P0.tmp (Array.getElem?_eq_some_iff.1 g1).1] at g1
       cases g1
       exact .ptr _ 0 b (D.v ti.zero).cells.length 1 (by rw [← hI.heap.len]; simp)
      ·rw [if_neg hk] at g2
       exact (hI.tmps k v d g1 g2).mono hK hp'
     refine aop_sound hT hΓ hoz hI2 h2 (fun S1 β1 a1 w1 hI1 hE1 => ?_)
     have hf0 : fuel = 0 := by simp at hl; omega
     subst hf0
     refine ⟨?_, hQ S1 β1 a1 w1 hI1 (hE2.trans hE1)⟩
     rw [List.eq_nil_iff_forall_not_mem]
     intro j hj
     obtain ⟨j1, j2, _⟩ := ready_spec hj
     rw [getD_set] at j2
     split at j2
     ·cases j2
     ·rw [hdone j (by omega)] at j2; cases j2
    ·cases he
   ·cases h1
  ·by_cases hiq : i = q
   ·subst hiq
    rw [hoq] at hoi
    cases hoi
    have hpb : pb = none := by
     cases pb with
     | none => rfl
     | some b => have := hR.ql; rw [i2] at this; cases this
    subst hpb
    unfold wpOp
    simp only [hoq]
    rw [if_pos (by unfold Region.wanted; rw [hgu])]
    refine .inl (wp_of_value (hrun a w) ?_)
    obtain ⟨e1, e2⟩ := skip_alloc (DR := DR) hI.heap (.cells zv.cells e)
    have hput : σ.put (some t) .undef σ.heap = σ := hu
    have hI1 := hI.put e1 e2 (.undef (.pointer (some ⟨w.heap.size, 0, none⟩))) (some t)
    rw [hput] at hI1
    rw [hds]
    refine ih rem _ (some w.heap.size) (by simp at hl ⊢; omega) ⟨by simp [hR.size], hR.sorted, fun k => ?_, ?_, ?_, closed_set hR.size hoq hall hR.closed⟩ hI1 hu hs h1 h2 (fun b hb => ?_) (hE.trans e1) hQ
    ·rw [hR.mem k, getD_set]
     constructor
     ·rintro ⟨g1, g2, g3⟩; exact ⟨g1, g2, by rw [if_neg (fun h => g2 h.symm)]; exact g3⟩
     ·rintro ⟨g1, g2, g3⟩; rw [if_neg (fun h => g2 h.symm)] at g3; exact ⟨g1, g2, g3⟩
    ·rw [getD_set, if_neg (by omega)]; exact hR.zl
    ·rw [getD_set, if_pos rfl]; rfl
    ·cases hb
     refine ⟨fun hta => ?_, hE.size, by simp, fun r c k hr => ?_, fun j hj => ?_, heap_alloc_new w _⟩
     ·have : t < a.tmps.size := by simpa [Act.put] using hta
      simp [Act.put, this]
     ·have := hI.heap.dl _ _ _ _ hr; omega
     ·have := hI.heap.sb _ j hj; omega
   ·have hilt : i < z := by omega
    have hmem : i ∈ rem := (hR.mem i).2 ⟨hilt, hiq, i2⟩
    obtain ⟨pre, post, rfl⟩ := List.append_of_mem hmem
    have hsort := hR.sorted
    have hprelt : ∀ j ∈ pre, j < i := fun j hj => by
     rw [List.pairwise_append] at hsort
     exact hsort.2.2 j hj i List.mem_cons_self
    have hpost : ∀ j ∈ post, i < j := fun j hj => by
     rw [List.pairwise_append, List.pairwise_cons] at hsort
     exact hsort.2.1.1 j hj
    have hcomm : ∀ j ∈ pre, ∃ oj, ops[j]? = some oj ∧ commutes E ops oj oi = true := by
     intro j hj
     have hji := hprelt j hj
     obtain ⟨j1, j3, j2⟩ := (hR.mem j).1 (List.mem_append_left _ hj)
     rcases hcom i j hilt hji hiq j3 with h3 | ⟨x, y, g1, g2, g3⟩
     ·exfalso
      have := reach_listedL hR.size hR.closed h3 (fun o e ho he hb => by rw [hoi] at ho; cases ho; exact hall e he hb)
      rw [getD_tf (by rw [hR.size]; omega), j2] at this
      cases this
     ·rw [hoi] at g2; cases g2
      exact ⟨x, g1, g3⟩
    obtain ⟨σa, h3, h4⟩ := aidx_take hoi (J := fun _ => True) (fun _ _ _ _ _ _ _ => trivial) pre post σ σ1 trivial (fun j hj => let ⟨oj, g1, g2⟩ := hcomm j hj; ⟨oj, g1, fun _ _ _ _ k1 k2 => aop_comm g2 k1 k2⟩) hs
    obtain ⟨y, hy, hy1, hy2⟩ := hfree i hilt hiq
    rw [hoi] at hy
    cases hy
    have hua : σa.und t = σa := by
     have := aop_und hy1 hy2 h3
     rw [hu, h3] at this
     exact (Option.some.inj this).symm
    refine aop_sound_put hT hΓ hoi hI h3 (fun S1 β1 v w1 hI1 hE1 => ?_)
    refine ih (pre ++ post) _ pb (by simp at hl ⊢; omega) ⟨by simp [hR.size], ?_, fun k => ?_, ?_, ?_, closed_set hR.size hoi hall hR.closed⟩ hI1 hua h4 h1 h2 (fun b hb => (hp b hb).step hE1 hy2) (hE.trans hE1) hQ
    ·rw [List.pairwise_append] at hsort ⊢
     exact ⟨hsort.1, (List.pairwise_cons.1 hsort.2.1).2, fun x hx y hy => hsort.2.2 x hx y (List.mem_cons_of_mem _ hy)⟩
    ·have hk := hR.mem k
     simp only [List.mem_append, List.mem_cons] at hk ⊢
     rw [getD_set]
     by_cases hki : i = k
     ·subst hki
      simp only [if_true]
      constructor
      ·rintro (h | h)
       ·have := hprelt i h; omega
       ·have := hpost i h; omega
      ·rintro ⟨_, _, h⟩; cases h
     ·rw [if_neg hki]
      constructor
      ·rintro (h | h)
       ·exact hk.1 (.inl h)
       ·exact hk.1 (.inr (.inr h))
      ·intro h
       rcases hk.2 h with h | h | h
       ·exact .inl h
       ·exact absurd h.symm hki
       ·exact .inr h
    ·rw [getD_set, if_neg hiz]; exact hR.zl
    ·rw [getD_set, if_neg hiq]; exact hR.ql
theorem late_region {P : Program} {E : Env} {Γ : Calling} (hT : ∀ t i, E.T t = some i → tiOf P t = some i) (hΓ : CSound DR P Γ) {ops : Array Oper} (hl : lateOk E ops = true) {σ σ' : St} (hs : aidx E Γ ops (List.range ops.size) σ = some σ')
  {S : Nat → Nat → Prop} {β : Blocks} {a : Act} {w : World} (hI : Inv S β σ a w) {Q : Exit → Act → World → Prop} (hQ : ∀ S' β' a' w', Inv S' β' σ' a' w' → Ext DR S β w S' β' w' → Q .normal a' w') :
  wpAny P .any ops Q ops.size (Array.replicate ops.size false) a w := by
 unfold lateOk at hl
 obtain ⟨q, hq0, hl⟩ := List.any_eq_true.1 hl
 unfold lateAt at hl
 simp only [Bool.and_eq_true, decide_eq_true_eq] at hl
 obtain ⟨hqz, hback, hlast, hal, hcom⟩ := hl
 obtain ⟨z, hz⟩ : ∃ z, z + 1 = ops.size := ⟨ops.size - 1, by omega⟩
 have hz1 : ops.size - 1 = z := by omega
 rw [hz1] at hqz hlast hal hcom
 split at hal
 case h_2 => cases hal
 rename_i oq hoq
 split at hal
 case h_2 => cases hal
 rename_i e t hao
 have hao' : oq.op = .alloc e ∧ oq.guard = none ∧ oq.dst = some t := by
  unfold Oper.allocOf at hao
  split at hao
  ·rename_i g1 g2 g3
   simp only [Option.some.injEq, Prod.mk.injEq] at hao
   obtain ⟨rfl, rfl⟩ := hao
   exact ⟨g1, g2, g3⟩
  ·cases hao
 obtain ⟨hop, hgu, hds⟩ := hao'
 have hzlt : z < ops.size := by omega
 have hfr : ∀ i, i < z → i ≠ q → ∃ y, ops[i]? = some y ∧ t ∉ y.looksAt ops ∧ y.dst ≠ some t ∧ (i < q ∨ commutes E ops oq y = true) := by
  intro i hi hiq
  have h0 := List.all_eq_true.1 hal i (List.mem_range.2 hi)
  rw [Bool.or_eq_true] at h0
  rcases h0 with h0 | h0
  ·exact absurd (by simpa using h0) hiq
  ·split at h0
   ·rename_i y hy
    simp only [Bool.and_eq_true, Bool.or_eq_true, decide_eq_true_eq, Bool.not_eq_true', bne_iff_ne, ne_eq] at h0
    exact ⟨y, hy, by simpa using h0.1, h0.2.1, h0.2.2⟩
   ·cases h0
 -- the order of the text, the allocation but the last
 have hrange : List.range ops.size = (List.range q ++ (q :: List.range' (q + 1) (z - q - 1))) ++ [z] := by
  rw [← hz, List.range_succ]
  congr 1
  rw [List.range_eq_range', List.range_eq_range', show q :: List.range' (q + 1) (z - q - 1) = List.range' (0 + q) (z - q) from ?_, List.range'_append_1, show q + (z - q) = z by omega]
  rw [Nat.zero_add, show z - q = (z - q - 1) + 1 by omega, List.range'_succ]
  simp
 rw [hrange, aidx_append, aidx_append] at hs
 obtain ⟨σb, hb, hs2⟩ := Option.bind_eq_some_iff.1 hs
 obtain ⟨σa, ha, hb⟩ := Option.bind_eq_some_iff.1 hb
 have hmidmem : ∀ j ∈ List.range' (q + 1) (z - q - 1), q < j ∧ j < z := fun j hj => by
  have := List.mem_range'_1.1 hj; omega
 obtain ⟨σ1, h1, h2⟩ := aidx_late hoq _ σa σb (fun j hj => by
  obtain ⟨j1, j2⟩ := hmidmem j hj
  obtain ⟨y, hy, _, _, hc⟩ := hfr j j2 (by omega)
  rcases hc with hc | hc
  ·omega
  ·exact ⟨y, hy, hc⟩) hb
 have hoz : ops[z]? = some ops[z] := Array.getElem?_eq_getElem hzlt
 have hrem : aidx E Γ ops (List.range q ++ List.range' (q + 1) (z - q - 1)) σ = some σ1 := by
  rw [aidx_append, ha]; exact h1
 have hund := aidx_und (t := t) _ σ σ1 (fun i hi => by
  rcases List.mem_append.1 hi with hi | hi
  ·have := List.mem_range.1 hi
   obtain ⟨y, hy, g1, g2, _⟩ := hfr i (by omega) (by omega)
   exact ⟨y, hy, g1, g2⟩
  ·obtain ⟨j1, j2⟩ := hmidmem i hi
   obtain ⟨y, hy, g1, g2, _⟩ := hfr i j2 (by omega)
   exact ⟨y, hy, g1, g2⟩) hrem
 have h2' : aop E Γ ops.toList oq (σ1.und t) = some σb := by
  rw [← h2]
  unfold aop aeff aguard
  simp only [hgu, hop, ares, hds]
  have : (σ1.und t).heap = σ1.heap := rfl
  rw [this]
  cases E.T e with
  | none => rfl
  | some i =>
   simp only
   split
   ·simp [St.put, St.und]
   ·rfl
 have h3 : aop E Γ ops.toList ops[z] σb = some σ' := by
  simp only [aidx, hoz] at hs2
  split at hs2
  ·rename_i σ2 g
   rw [g]; exact hs2
  ·cases hs2
 obtain ⟨ti, hti⟩ : ∃ ti, E.T e = some ti := by
  cases he : E.T e with
  | some i => exact ⟨i, rfl⟩
  | none =>
   unfold aop aeff aguard at h2
   simp only [hgu, hop, ares, he] at h2
   cases h2
 obtain ⟨info, desc, zv, g1, g2, g3, g4, _⟩ := tiOf_spec (hT _ _ hti)
 have hI0 : Inv S β (σ.und t) a w := by
  refine ⟨by simp [St.und, hI.size], fun k v d k1 k2 => ?_, hI.heap, hI.defers⟩
  simp only [St.und, List.getElem?_set] at k2
  split at k2
  ·split at k2
   ·cases k2; exact .undef v
   ·cases k2
  ·exact hI.tmps k v d k1 k2
 refine late_sound (zv := zv) (S0 := S) (β0 := β) (w0 := w) hT hΓ hback hqz hz hoq hop hgu hds hoz (fun i hi => before_reach ops (List.all_eq_true.1 hlast i (List.mem_range.2 hi))) (fun i hi hiq => ?_) (fun i j hi hji hiq hjq => ?_) hti g4 (fun a w => ?_)
  ops.size (List.range q ++ List.range' (q + 1) (z - q - 1)) _ none ?_ ?_ hI0 ?_ hund h2' h3 (fun b hb => by cases hb) (Ext.refl _ _ _) hQ
 ·obtain ⟨y, hy, k1, k2, _⟩ := hfr i hi hiq
  exact ⟨y, hy, k1, k2⟩
 ·have h0 := List.all_eq_true.1 hcom i (List.mem_range.2 hi)
  rw [Bool.or_eq_true] at h0
  rcases h0 with h0 | h0
  ·exact absurd (by simpa using h0) hiq
  ·have h0 := List.all_eq_true.1 h0 j (List.mem_range.2 hji)
   rw [Bool.or_eq_true, Bool.or_eq_true] at h0
   rcases h0 with h0 | h0 | h0
   ·exact absurd (by simpa using h0) hjq
   ·exact .inl (before_reach ops h0)
   ·split at h0
    ·rename_i x y hx hy
     exact .inr ⟨x, y, hx, hy, h0⟩
    ·cases h0
 ·rw [show execOp a.eval oq = execOp a.eval { oq with op := .alloc e } by rw [← hop]]
  simp [execOp, Instr.alloc, zeroValue, run_typeInfo g1, g3, newVar, newRow]
 ·simp
  omega
 ·refine ⟨by simp, ?_, fun i => ?_, by simp [Array.getD, hzlt], by simp [Array.getD, show q < ops.size by omega], fun i o e hi hl => ?_⟩
  ·rw [List.pairwise_append]
   refine ⟨by rw [List.range_eq_range']; exact List.pairwise_lt_range', List.pairwise_lt_range', fun x hx y hy => ?_⟩
   have := List.mem_range.1 hx
   have := (hmidmem y hy).1
   omega
  ·rw [List.mem_append, List.mem_range, List.mem_range'_1]
   constructor
   ·intro h
    have hi : i < ops.size := by omega
    exact ⟨by omega, by omega, by simp [Array.getD, hi]⟩
   ·rintro ⟨k1, k2, _⟩; omega
  ·simp [Array.getD, hi] at hl
 ·simp [St.und]
variable {DR : Prop}
theorem RelD.withRef {S : Nat → Nat → Prop} {β β' : Blocks} {w : World} {v : Value} {d : D} {r r' : Nat} (h : RelD S β w v d) (hr : d.ref? = some r) (hb : ∀ x, β[r]? = some x → β'[r']? = some x) : RelD S β' w v (d.withRef r') := by
 cases h <;> simp only [D.ref?, Option.some.injEq] at hr <;> first | (cases hr; done) | skip
 case ptr r0 off b c k h => subst hr; exact .ptr _ off b c k (hb _ h)
 case map r0 b c k h => subst hr; exact .map _ b c k (hb _ h)
 case osl r0 off len b c k p cap full h h2 hp hcap => subst hr; exact .osl _ off len b c k p cap full (hb _ h) h2 hp hcap
 case tsl t b c k n es h hn hs hv => subst hr; exact .tsl _ b c k n es (hb _ h) hn hs hv
theorem RelD.under {S : Nat → Nat → Prop} {β β' : Blocks} {w : World} {L : Nat} (hb : ∀ (r : Nat) x, r < L → β[r]? = some x → β'[r]? = some x) : ∀ (n : Nat) {v : Value} {d : D}, RelD S β w v d → d.under L n = true → RelD S β' w v d
 | 0, _, _, h, hd => by simp [D.under] at hd
 | n + 1, _, _, h, hd => by
  cases h with
  | undef _ => exact .undef _
  | v _ x h => exact .v _ x h
  | ptr r off b c k h => exact .ptr r off b c k (hb _ _ (by simpa [D.under] using hd) h)
  | eptr r i off b c k p h hp => exact .eptr r i off b c k p (hb _ _ (by simpa [D.under] using hd) h) hp
  | vptr b off cells vals hs hr => exact .vptr b off cells vals hs hr
  | map r b c k h => exact .map r b c k (hb _ _ (by simpa [D.under] using hd) h)
  | osl r off len b c k p cap full h h2 hp hcap => exact .osl r off len b c k p cap full (hb _ _ (by simpa [D.under] using hd) h) h2 hp hcap
  | tsl t b c k n es h hn hs hv => exact .tsl t b c k n es (hb _ _ (by simpa [D.under] using hd) h) hn hs hv
  | func f first captured fs cs hl hl' hr hr' =>
   simp only [D.under, Bool.and_eq_true, List.all_eq_true] at hd
   exact .func f first captured fs cs hl hl' (fun i v x h1 h2 => RelD.under hb n (hr i v x h1 h2) (hd.1 x (List.mem_of_getElem? h2))) (fun i v x h1 h2 => RelD.under hb n (hr' i v x h1 h2) (hd.2 x (List.mem_of_getElem? h2)))
  | agg vs cs hl hr =>
   simp only [D.under, List.all_eq_true] at hd
   exact .agg vs cs hl (fun i v x h1 h2 => RelD.under hb n (hr i v x h1 h2) (hd x (List.mem_of_getElem? h2)))
  | tuple vs cs hl hr =>
   simp only [D.under, List.all_eq_true] at hd
   exact .tuple vs cs hl (fun i v x h1 h2 => RelD.under hb n (hr i v x h1 h2) (hd x (List.mem_of_getElem? h2)))
  | box t v d hr =>
   simp only [D.under] at hd
   exact .box t v d (RelD.under hb n hr hd)
theorem ObjRel.under {S : Nat → Nat → Prop} {β β' : Blocks} {w : World} {L : Nat} (hb : ∀ (r : Nat) x, r < L → β[r]? = some x → β'[r]? = some x) {b c k : Nat} {o : AObj} (h : ObjRel S β w b c k o) (ho : o.under L = true) : ObjRel S β' w b c k o := by
 cases o with
 | cells cs =>
  obtain ⟨h1, h2, h3, cur, e, h4, h5, h6⟩ := h
  simp only [AObj.under, List.all_eq_true] at ho
  exact ⟨h1, h2, h3, cur, e, h4, h5, fun j v d hv hd => (h6 j v d hv hd).under hb 5 (ho d (List.mem_of_getElem? hd))⟩
 | grid k' cs =>
  obtain ⟨h1, h0, h2, h3, cur, e, h4, h5, h6⟩ := h
  simp only [AObj.under, List.all_eq_true] at ho
  exact ⟨h1, h0, h2, h3, cur, e, h4, h5, fun j v d hv hd => (h6 j v d hv hd).under hb 5 (ho d (List.mem_of_getElem? hd))⟩
 | map ks vs =>
  obtain ⟨h1, h2, es, h3, h4, h5, h6, h7⟩ := h
  simp only [AObj.under, List.all_eq_true] at ho
  exact ⟨h1, h2, es, h3, h4, h5, h6, fun i e d he hd => (h7 i e d he hd).under hb 5 (ho d (List.mem_of_getElem? hd))⟩
 | iter m since seen last =>
  obtain ⟨h1, mv, h2, h3⟩ := h
  exact ⟨h1, mv, h2, h3.under hb 5 ho⟩
 | _ => exact h
theorem Inv.padS {S : Nat → Nat → Prop} {β : Blocks} {σ : St} {a : Act} {w : World} (h : Inv S β σ a w) : ∃ β', Inv S β' (padS σ) a w ∧ Ext DR S β w S β' w := by
 obtain ⟨e1, e2⟩ := h.heap.pad (DR := DR)
 exact ⟨_, ⟨h.size, fun i v d h1 h2 => (h.tmps i v d h1 h2).mono e1.keeps e1.pre, e2, h.defers⟩, e1⟩
theorem Inv.moveT {S : Nat → Nat → Prop} {β : Blocks} {σ : St} {a : Act} {w : World} (h : Inv S β σ a w) (s : Nat) : ∃ β', Inv S β' (moveT σ s) a w ∧ Ext DR S β w S β' w := by
 unfold Abs.moveT
 split
 ·rename_i d hd
  split
  ·rename_i r hr
   split
   ·rename_i o ho
    split
    ·rename_i hl
     have hlt := lt_of_getElem? ho
     have hlen := h.heap.len
     obtain ⟨⟨b, c, k⟩, hb⟩ : ∃ x, β[r]? = some x := ⟨_, List.getElem?_eq_getElem (by omega)⟩
     obtain ⟨e1, e2⟩ := h.heap.move ho hl hb
     refine ⟨_, ⟨by simp [h.size], fun i v d' h1 h2 => ?_, e2, h.defers⟩, e1⟩
     simp only [List.getElem?_set] at h2
     split at h2
     ·rename_i e
      subst e
      split at h2
      ·cases h2
       refine (h.tmps s v d h1 hd).withRef hr (fun x hx => ?_)
       rw [hb] at hx
       cases hx
       rw [← hlen]
       simp
      ·cases h2
     ·exact (h.tmps i v d' h1 h2).mono e1.keeps e1.pre
    ·exact h.padS
   ·exact h.padS
  ·exact h.padS
 ·exact h.padS
theorem HInv.recell {S : Nat → Nat → Prop} {β : Blocks} {w : World} {h : List AObj} (hi : HInv S β w h) {p : Nat} {cs cs' : List D} (hp : h[p]? = some (.cells cs)) (hl : cs'.length = cs.length)
  (hr : ∀ (j : Nat) (v : Value) (d' : D), cs'[j]? = some d' → (∀ d, cs[j]? = some d → RelD S β w v d) → RelD S β w v d') : HInv S β w (h.set p (.cells cs')) := by
 have hlt := lt_of_getElem? hp
 have get : ∀ (r : Nat) (o : AObj), (h.set p (.cells cs'))[r]? = some o → (r = p ∧ o = .cells cs') ∨ (r ≠ p ∧ h[r]? = some o) := by
  intro r o g
  by_cases e : p = r
  ·subst e
   rw [List.getElem?_set_self hlt] at g
   cases g; exact .inl ⟨rfl, rfl⟩
  ·rw [List.getElem?_set_ne e] at g
   exact .inr ⟨fun e' => e e'.symm, g⟩
 refine ⟨by rw [List.length_set]; exact hi.len, fun r o b c k g1 g2 => ?_, fun r o b c k g1 l1 g2 => ?_, fun r r' o o' b c k c' k' g1 l1 g2 l2 g3 g4 => ?_, fun r o b c k i g1 l1 g2 => ?_, hi.sb, hi.gl, hi.dl⟩
 ·rcases get r o g1 with ⟨rfl, rfl⟩ | ⟨_, g⟩
  ·obtain ⟨h1, h2, h3, cur, e, h4, h5, h6⟩ := hi.obj r _ b c k hp g2
   exact ⟨h1, h2, by rw [hl]; exact h3, cur, e, h4, h5, fun j v d hv hd => hr j v d hd fun d0 h0 => h6 j v d0 hv h0⟩
  ·exact hi.obj r o b c k g g2
 ·rcases get r o g1 with ⟨rfl, rfl⟩ | ⟨_, g⟩
  ·exact hi.lt r _ b c k hp rfl g2
  ·exact hi.lt r o b c k g l1 g2
 ·rcases get r o g1 with ⟨rfl, rfl⟩ | ⟨_, g⟩ <;> rcases get r' o' g2 with ⟨rfl, rfl⟩ | ⟨_, g'⟩
  ·rfl
  ·exact hi.inj _ r' _ o' b c k c' k' hp rfl g' l2 g3 g4
  ·exact hi.inj r _ o _ b c k c' k' g l1 hp rfl g3 g4
  ·exact hi.inj r r' o o' b c k c' k' g l1 g' l2 g3 g4
 ·rcases get r o g1 with ⟨rfl, rfl⟩ | ⟨_, g⟩
  ·exact hi.own _ (.cells cs) b c k i hp rfl g2
  ·exact hi.own r o b c k i g l1 g2
theorem Inv.moveC {S : Nat → Nat → Prop} {β : Blocks} {σ : St} {a : Act} {w : World} (h : Inv S β σ a w) (s off : Nat) : ∃ β', Inv S β' (moveC σ s off) a w ∧ Ext DR S β w S β' w := by
 unfold Abs.moveC
 split
 ·rename_i p _
  split
  ·rename_i cs hp
   split
   ·rename_i d hd
    split
    ·rename_i r hr
     split
     ·rename_i o ho
      split
      ·rename_i hc
       rw [Bool.and_eq_true] at hc
       have hl := hc.1
       have hne : r ≠ p := by simpa using hc.2
       have hlt := lt_of_getElem? ho
       have hlen := h.heap.len
       obtain ⟨⟨b, c, k⟩, hb⟩ : ∃ x, β[r]? = some x := ⟨_, List.getElem?_eq_getElem (by omega)⟩
       obtain ⟨e1, e2⟩ := h.heap.move (DR := DR) ho hl hb
       have hp' : (σ.heap.set r .dead ++ [o])[p]? = some (.cells cs) := by
        rw [List.getElem?_append_left (by rw [List.length_set]; exact lt_of_getElem? hp), List.getElem?_set_ne hne]; exact hp
       refine ⟨_, ⟨h.size, fun i v d' h1 h2 => (h.tmps i v d' h1 h2).mono e1.keeps e1.pre, e2.recell hp' (by simp) fun j v d' h1 h2 => ?_, h.defers⟩, e1⟩
       rw [List.getElem?_set] at h1
       split at h1
       ·rename_i e
        subst e
        split at h1
        ·cases h1
         refine (h2 d hd).withRef hr fun x hx => ?_
         rw [List.getElem?_append_left (by omega)] at hx
         rw [hb] at hx
         cases hx
         rw [← hlen]
         simp
        ·cases h1
       ·exact h2 d' h1
      ·exact h.padS
     ·exact h.padS
    ·exact h.padS
   ·exact h.padS
  ·exact h.padS
 ·exact h.padS
theorem Inv.moveS {S : Nat → Nat → Prop} {β : Blocks} {σ : St} {a : Act} {w : World} (h : Inv S β σ a w) (s : Nat) : ∃ β', Inv S β' (moveS σ s) a w ∧ Ext DR S β w S β' w := by
 unfold Abs.moveS
 split
 ·exact h.moveT s
 ·exact h.moveC _ _
theorem Inv.moves {S : Nat → Nat → Prop} {a : Act} {w : World} : ∀ (acc : List Nat) {β : Blocks} {σ : St}, Inv S β σ a w → ∃ β', Inv S β' (acc.foldl Abs.moveS σ) a w ∧ Ext DR S β w S β' w
 | [], β, σ, h => ⟨β, h, Ext.refl _ _ _⟩
 | s :: acc, β, σ, h => by
  obtain ⟨β1, h1, e1⟩ := h.moveS s
  obtain ⟨β2, h2, e2⟩ := Inv.moves acc h1
  exact ⟨β2, h2, e1.trans e2⟩
theorem cut_get {α : Type} (l : List α) {L M : Nat} (hLM : L ≤ M) (hM : M ≤ l.length) (j : Nat) : (l.take L ++ l.drop M)[j]? = if j < L then l[j]? else l[j + (M - L)]? := by
 rw [List.getElem?_append]
 have h1 : (l.take L).length = L := by simp; omega
 rw [h1]
 split
 ·rename_i h; rw [List.getElem?_take, if_pos h]
 ·rename_i h; rw [List.getElem?_drop]; congr 1; omega
theorem Inv.cutS {S : Nat → Nat → Prop} {β : Blocks} {σ : St} {a : Act} {w : World} (h : Inv S β σ a w) (keep : List Nat) {L M : Nat} (hLM : L ≤ M) (hM : M ≤ σ.heap.length) :
  ∃ β', Inv S β' (cutS keep L M σ) a w ∧ ∀ (S0 : Nat → Nat → Prop) (β0 : Blocks) (w0 : World), β0.length = L → Ext DR S0 β0 w0 S β w → Ext DR S0 β0 w0 S β' w := by
 unfold Abs.cutS
 split
 ·rename_i hok
  rw [List.all_eq_true] at hok
  split
  ·rename_i hs ts hhs hts
   obtain ⟨t1, t2⟩ := allM_spec hts
   obtain ⟨u1, u2⟩ := allM_spec hhs
   have u0 : hs.length = L := by rw [u1, List.length_take]; have := h.heap.len; omega
   have hlen := h.heap.len
   have hget := fun j => cut_get β hLM (by omega) j
   have hb : ∀ (r : Nat) x, r < L → β[r]? = some x → (β.take L ++ β.drop M)[r]? = some x := fun r x hr hx => by rw [hget, if_pos hr]; exact hx
   have hbM : ∀ (r : Nat) x, M ≤ r → β[r]? = some x → (β.take L ++ β.drop M)[r - (M - L)]? = some x := fun r x hr hx => by
    rw [hget, if_neg (by omega), show r - (M - L) + (M - L) = r by omega]; exact hx
   have cutC_rel : ∀ {v : Value} {d d' : D}, RelD S β w v d → cutC L M d = some d' → RelD S (β.take L ++ β.drop M) w v d' := by
    intro v d d' hd hc
    unfold cutC at hc
    split at hc
    ·rename_i hbel; cases hc; exact hd.under hb 5 hbel
    ·split at hc
     ·rename_i r href
      split at hc
      ·rename_i hMr; cases hc
       exact hd.withRef href fun x hx => hbM r x hMr hx
      ·cases hc
     ·cases hc
   have cut_rel : ∀ {o o' : AObj} {b c k : Nat}, ObjRel S β w b c k o → AObj.cut L M o = some o' → ObjRel S (β.take L ++ β.drop M) w b c k o' ∧ o'.live = o.live ∧ o'.room = o.room := by
    intro o o' b c k hob hc
    cases o with
    | cells cs =>
     obtain ⟨cs', hcs, rfl⟩ := Option.map_eq_some_iff.1 hc
     obtain ⟨v1, v2⟩ := allM_spec hcs
     obtain ⟨h1, h2, h3, cur, e, h4, h5, h6⟩ := hob
     refine ⟨⟨h1, h2, by omega, cur, e, h4, h5, fun j v d hv hd => ?_⟩, rfl, rfl⟩
     have hj : j < cs.length := by have := lt_of_getElem? hd; omega
     have hx := List.getElem?_eq_getElem hj
     exact cutC_rel (h6 j v _ hv hx) (v2 j _ d hx hd)
    | grid k' cs =>
     obtain ⟨cs', hcs, rfl⟩ := Option.map_eq_some_iff.1 hc
     obtain ⟨v1, v2⟩ := allM_spec hcs
     obtain ⟨h1, h0, h2, h3, cur, e, h4, h5, h6⟩ := hob
     refine ⟨⟨h1, h0, h2, by omega, cur, e, h4, h5, fun j v d hv hd => ?_⟩, rfl, rfl⟩
     have hj : j < cs.length := by have := lt_of_getElem? hd; omega
     have hx := List.getElem?_eq_getElem hj
     exact cutC_rel (h6 j v _ hv hx) (v2 j _ d hx hd)
    | _ =>
     simp only [AObj.cut] at hc
     split at hc
     ·rename_i hu; cases hc; exact ⟨hob.under hb hu, rfl, rfl⟩
     ·cases hc
   -- the old place
   have old : ∀ (q : Nat) o x, (hs ++ σ.heap.drop M)[q]? = some o → (β.take L ++ β.drop M)[q]? = some x → ∃ q' o0, σ.heap[q']? = some o0 ∧ β[q']? = some x ∧ (q' = q ∧ q < L ∨ q' = q + (M - L) ∧ L ≤ q) ∧ (∀ {b c k : Nat}, ObjRel S β w b c k o0 → ObjRel S (β.take L ++ β.drop M) w b c k o) ∧ o.live = o0.live ∧ o.room = o0.room := by
    intro q o x g1 g2
    rw [hget] at g2
    by_cases hq : q < L
    ·rw [if_pos hq] at g2
     rw [List.getElem?_append_left (by omega)] at g1
     have hql : q < σ.heap.length := by omega
     have hx : (σ.heap.take L)[q]? = some σ.heap[q] := by rw [List.getElem?_take_of_lt hq]; exact List.getElem?_eq_getElem hql
     have hc := u2 q _ o hx g1
     obtain ⟨⟨b0, c0, k0⟩, hb0⟩ : ∃ y, β[q]? = some y := ⟨x, g2⟩
     have hob := h.heap.obj q _ b0 c0 k0 (List.getElem?_eq_getElem hql) hb0
     exact ⟨q, _, List.getElem?_eq_getElem hql, g2, .inl ⟨rfl, hq⟩, fun hr => (cut_rel hr hc).1, (cut_rel hob hc).2.1, (cut_rel hob hc).2.2⟩
    ·rw [if_neg hq] at g2
     rw [List.getElem?_append_right (by omega), u0] at g1
     have hu := hok o (List.mem_of_getElem? g1)
     rw [List.getElem?_drop, show M + (q - L) = q + (M - L) by omega] at g1
     exact ⟨_, o, g1, g2, .inr ⟨rfl, by omega⟩, fun hr => hr.under hb hu, rfl, rfl⟩
   refine ⟨β.take L ++ β.drop M, ⟨?_, fun i v d h1 h2 => ?_, ⟨by simp only [List.length_append, List.length_take, List.length_drop, u0]; omega, fun q o b c k g1 g2 => ?_, fun q o b c k g1 l1 g2 => ?_, fun q1 q2 o1 o2 b c1 k1 c2 k2 g1 l1 g2 l2 g3 g4 => ?_, fun q o b c k i g1 l1 g2 => ?_, h.heap.sb, h.heap.gl, fun r b c k hr => by
    rw [hget] at hr
    split at hr
    ·exact h.heap.dl _ _ _ _ hr
    ·exact h.heap.dl _ _ _ _ hr⟩, h.defers⟩, fun S0 β0 w0 hl hE => ?_⟩
   ·show a.tmps.size = ts.length
    rw [t1]; simp [h.size]
   ·have hlt := lt_of_getElem? h2
    have hlt' : i < σ.tmps.length := by simpa [t1] using hlt
    have hd := List.getElem?_eq_getElem hlt'
    have hm : (σ.tmps.mapIdx (cutD keep L M))[i]? = some (cutD keep L M i σ.tmps[i]) := by rw [List.getElem?_mapIdx, hd]; rfl
    have hc : cutD keep L M i σ.tmps[i] = some d := t2 i _ d hm h2
    have hr := h.tmps i v _ h1 hd
    unfold cutD at hc
    split at hc
    ·split at hc
     ·rename_i hbel
      cases hc
      exact hr.under hb 5 hbel
     ·split at hc
      ·rename_i r href
       split at hc
       ·rename_i hMr
        cases hc
        refine hr.withRef href (fun x hx => ?_)
        rw [hget, if_neg (by omega)]
        have : r - (M - L) + (M - L) = r := by omega
        rw [this]; exact hx
       ·cases hc
      ·cases hc
    ·cases hc; exact .undef _
   ·obtain ⟨q', o0, a1, a2, _, a4, _⟩ := old q o _ g1 g2
    exact a4 (h.heap.obj q' o0 b c k a1 a2)
   ·obtain ⟨q', o0, a1, a2, _, _, a5, _⟩ := old q o _ g1 g2
    exact h.heap.lt q' o0 b c k a1 (a5 ▸ l1) a2
   ·obtain ⟨p1, x1, a1, a2, a3, _, a5, _⟩ := old q1 o1 _ g1 g3
    obtain ⟨p2, x2, b1, b2, b3, _, b5, _⟩ := old q2 o2 _ g2 g4
    have := h.heap.inj p1 p2 x1 x2 b c1 k1 c2 k2 a1 (a5 ▸ l1) b1 (b5 ▸ l2) a2 b2
    omega
   ·obtain ⟨q', o0, a1, a2, _, _, a5, a6⟩ := old q o _ g1 g2
    rw [a6]
    exact h.heap.own q' o0 b c k i a1 (a5 ▸ l1) a2
   ·refine ⟨hE.keeps, fun r x hx => hb r x (by have := lt_of_getElem? hx; omega) (hE.pre r x hx), hE.size, hE.rest, fun r b c k hr => ?_, hE.os, hE.tape, hE.output, hE.drawn, hE.stay⟩
    rw [hget] at hr
    split at hr
    ·exact hE.fresh _ b c k hr
    ·exact hE.fresh _ b c k hr
  ·exact ⟨β, h, fun S0 β0 w0 _ hE => hE⟩
 ·exact ⟨β, h, fun S0 β0 w0 _ hE => hE⟩
theorem moveS_length (σ : St) (s : Nat) : (Abs.moveS σ s).heap.length = σ.heap.length + 1 := by
 unfold Abs.moveS Abs.moveT Abs.moveC Abs.padS
 repeat' split
 all_goals simp
theorem moves_length : ∀ (acc : List Nat) (σ : St), (acc.foldl Abs.moveS σ).heap.length = σ.heap.length + acc.length
 | [], σ => rfl
 | s :: acc, σ => by simp only [List.foldl_cons, List.length_cons]; rw [moves_length acc, moveS_length]; omega
theorem Inv.squash {S : Nat → Nat → Prop} {β : Blocks} {σ : St} {a : Act} {w : World} (h : Inv S β σ a w) (keep acc : List Nat) {L : Nat} (hL : L ≤ σ.heap.length) :
  ∃ β', Inv S β' (squash keep acc L σ) a w ∧ ∀ (S0 : Nat → Nat → Prop) (β0 : Blocks) (w0 : World), β0.length = L → Ext DR S0 β0 w0 S β w → Ext DR S0 β0 w0 S β' w := by
 unfold Abs.squash
 split
 ·exact ⟨β, h, fun _ _ _ _ h => h⟩
 ·obtain ⟨β1, h1, e1⟩ := h.moves acc
  obtain ⟨β2, h2, e2⟩ := h1.cutS keep hL (by rw [moves_length]; omega)
  exact ⟨β2, h2, fun S0 β0 w0 hl hE => e2 S0 β0 w0 hl (hE.trans e1)⟩
theorem Ext.le {S S' : Nat → Nat → Prop} {β β' : Blocks} {w w' : World} (h : Ext DR S β w S' β' w') : β.length ≤ β'.length := by
 rcases Nat.lt_or_ge β'.length β.length with hlt | hge
 ·exfalso
  have h1 := List.getElem?_eq_getElem (l := β) (i := β'.length) hlt
  have h2 := h.pre _ _ h1
  rw [List.getElem?_eq_none (Nat.le_refl _)] at h2
  cases h2
 ·exact hge
end Go.Abs
