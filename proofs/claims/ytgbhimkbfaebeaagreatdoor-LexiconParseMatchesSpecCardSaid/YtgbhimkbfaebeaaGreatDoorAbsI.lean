import Derived.Test.YtgbhimkbfaebeaaGreatDoorAbsF
namespace Go.Abs
set_option linter.unusedVariables false
set_option linter.unusedSimpArgs false
set_option linter.unnecessarySimpa false
variable {DR : Prop}
theorem skip_alloc {S : Nat → Nat → Prop} {β : Blocks} {w : World} {h : List AObj} (hi : HInv S β w h) (o : Obj) : Ext DR S β w S β (w.alloc o) ∧ HInv S β (w.alloc o) h := by
 have hk := keeps_alloc hi o S (fun _ _ h => h)
 constructor
 ·exact ⟨hk, fun _ _ h => h, by simp, fun b hb _ => heap_alloc_old w _ b hb, fun r b c k hr => .inr ⟨r, c, k, hr⟩, rfl, rfl, rfl, fun _ => Nat.le_refl _, fun _ _ h => .inl h⟩
 ·refine ⟨hi.len, fun r o' b c k h1 h2 => (hi.obj r o' b c k h1 h2).mono hk (fun _ _ h => h) (fun hl => heap_alloc_old w _ b (hi.lt r o' b c k h1 hl h2)), fun r o' b c k h1 l1 h2 => ?_, hi.inj, hi.own, fun b i hs => ?_, hi.gl.mono hk, fun r b c k hr => by have := hi.dl _ _ _ _ hr; simp; omega⟩
  ·have := hi.lt r o' b c k h1 l1 h2; simp; omega
  ·have := hi.sb b i hs; simp; omega
theorem adopt {S : Nat → Nat → Prop} {β : Blocks} {w : World} {h : List AObj} (hi : HInv S β w h) {b c : Nat} (hb : b < w.heap.size) (hβ : ∀ r c k : Nat, β[r]? ≠ some (b, c, k + 1)) (hS : ∀ i, ¬ S b i) {o : AObj} (ho : ObjRel S (β ++ [(b, c, 1)]) w b c 1 o) :
  HInv S (β ++ [(b, c, 1)]) w (h ++ [o]) := by
 have hp : ∀ (r : Nat) x, β[r]? = some x → (β ++ [(b, c, 1)])[r]? = some x := fun r x hx => (getElem?_snoc _ _ _ _).2 (.inl ⟨hx, lt_of_getElem? hx⟩)
 have hK : Keeps S w S w := fun _ _ h => ⟨h, rfl⟩
 have hlen := hi.len
 have two : ∀ (r : Nat) (o' : AObj) x, (h ++ [o])[r]? = some o' → (β ++ [(b, c, 1)])[r]? = some x → (h[r]? = some o' ∧ β[r]? = some x) ∨ (r = h.length ∧ o' = o ∧ x = (b, c, 1)) := by
  intro r o' x g1 g2
  rcases (getElem?_snoc _ _ _ _).1 g1 with ⟨g1, l1⟩ | ⟨e1, g1⟩ <;> rcases (getElem?_snoc _ _ _ _).1 g2 with ⟨g2, l2⟩ | ⟨e2, g2⟩
  ·exact .inl ⟨g1, g2⟩
  ·omega
  ·omega
  ·exact .inr ⟨e1, g1.symm, g2.symm⟩
 refine ⟨by simp [hlen], fun r o' b' c' k' h1 h2 => ?_, fun r o' b' c' k' h1 l1 h2 => ?_, fun r r' o1 o2 b' c1 k1 c2 k2 h1 l1 h2 l2 h3 h4 => ?_, fun r o' b' c' k' i h1 l1 h2 hs => ?_, hi.sb, hi.gl, fun r b' c' k' hr => ?_⟩
 ·rcases two r o' _ h1 h2 with ⟨g1, g2⟩ | ⟨_, rfl, g2⟩
  ·exact (hi.obj r o' b' c' k' g1 g2).mono hK hp (fun _ => rfl)
  ·cases g2; exact ho
 ·rcases two r o' _ h1 h2 with ⟨g1, g2⟩ | ⟨_, rfl, g2⟩
  ·exact hi.lt r o' b' c' k' g1 l1 g2
  ·cases g2; exact hb
 ·rcases two r o1 _ h1 h3 with ⟨g1, g2⟩ | ⟨e1, _, g2⟩ <;> rcases two r' o2 _ h2 h4 with ⟨g3, g4⟩ | ⟨e2, _, g4⟩
  ·exact hi.inj r r' o1 o2 b' c1 k1 c2 k2 g1 l1 g3 l2 g2 g4
  ·cases g4
   obtain ⟨k0, rfl⟩ := hi.kpos g1 l1 g2
   exact absurd g2 (hβ _ _ _)
  ·cases g2
   obtain ⟨k0, rfl⟩ := hi.kpos g3 l2 g4
   exact absurd g4 (hβ _ _ _)
  ·omega
 ·rcases two r o' _ h1 h2 with ⟨g1, g2⟩ | ⟨_, rfl, g2⟩
  ·exact hi.own r o' b' c' k' i g1 l1 g2 hs
  ·cases g2; exact absurd hs (hS i)
 ·rcases (getElem?_snoc _ _ _ _).1 hr with ⟨g, _⟩ | ⟨_, g⟩
  ·exact hi.dl _ _ _ _ g
  ·cases g; exact hb
def St.und (σ : St) (t : Nat) : St := ⟨σ.tmps.set t .undef, σ.heap⟩
theorem aop_und {E : Env} {Γ : Calling} {ops : Array Oper} {o : Oper} {σ σ1 : St} {t : Nat} (hl : t ∉ o.looksAt ops) (hd : o.dst ≠ some t) (h : aop E Γ ops.toList o σ = some σ1) : aop E Γ ops.toList o (σ.und t) = some (σ1.und t) := by
 have e0 : σ.und t = σ.put (some t) .undef σ.heap := rfl
 unfold aop at h ⊢
 rw [e0, aeff_put (dst := some t) (d := .undef) (fun u hu => by cases hu; exact hl)]
 split at h
 ·rename_i d h' he
  cases h
  have e1 := put_put (σ := σ) (x := some t) (y := o.dst) (d := .undef) (e := d) (h := σ.heap) (g := h') (fun u hu => by cases hu; exact hd)
  rw [e1]
  refine congrArg some ?_
  cases o.dst <;> rfl
 ·cases h
theorem aidx_und {E : Env} {Γ : Calling} {ops : Array Oper} {t : Nat} : ∀ (l : List Nat) (σ σ1 : St), (∀ i ∈ l, ∃ o, ops[i]? = some o ∧ t ∉ o.looksAt ops ∧ o.dst ≠ some t) → aidx E Γ ops l σ = some σ1 → aidx E Γ ops l (σ.und t) = some (σ1.und t)
 | [], σ, σ1, _, h => by
  simp only [aidx, Option.some.injEq] at h ⊢
  rw [h]
 | i :: r, σ, σ1, hl, h => by
  obtain ⟨o, h1, h2, h3⟩ := hl i List.mem_cons_self
  simp only [aidx, h1] at h ⊢
  split at h
  ·rename_i σ2 h4
   rw [aop_und h2 h3 h4]
   exact aidx_und r σ2 σ1 (fun j hj => hl j (List.mem_cons_of_mem _ hj)) h
  ·cases h
theorem getD_set (listed : Array Bool) (i q : Nat) : (listed.setIfInBounds i true).getD q true = if i = q then true else listed.getD q true := by
 simp only [Array.getD_eq_getD_getElem?, Array.getElem?_setIfInBounds]
 split
 ·split <;> rfl
 ·rfl
theorem least {p : Nat → Prop} : ∀ n, p n → ∃ m, p m ∧ ∀ k, k < m → ¬ p k := by
 intro n
 induction n using Nat.strongRecOn with
 | _ n ih =>
  intro hn
  by_cases h : ∃ k, k < n ∧ p k
  ·obtain ⟨k, hk, hp⟩ := h
   exact ih k hk hp
  ·exact ⟨n, hn, fun k hk hp => h ⟨k, hk, hp⟩⟩
theorem ready_some {ops : Array Oper} {listed : Array Bool} (hs : listed.size = ops.size) (hf : ops.toList.zipIdx.all (fun x => x.1.after.all fun e => !Region.binds .any e || decide (e.on < x.2)) = true) {i : Nat} (hi : i < ops.size) (hl : listed.getD i true = false) : Region.ready .any ops listed ≠ [] := by
 obtain ⟨m, ⟨m1, m2⟩, m3⟩ := least (p := fun i => i < ops.size ∧ listed.getD i true = false) i ⟨hi, hl⟩
 intro hnil
 have : m ∈ Region.ready .any ops listed := by
  unfold Region.ready
  rw [List.mem_filter, List.mem_range, Bool.and_eq_true]
  refine ⟨m1, by simpa using m2, ?_⟩
  rw [Array.getElem?_eq_getElem m1]
  simp only [Option.map_some, Option.getD_some, Array.all_eq_true_iff_forall_mem]
  intro e he
  rw [Bool.or_eq_true]
  by_cases hb : Region.binds .any e = true
  ·right
   have hz := List.all_eq_true.1 hf (ops[m], m) (by
    rw [List.mem_zipIdx_iff_getElem?]
    simp [Array.getElem?_eq_getElem m1])
   have hz' := Array.all_eq_true_iff_forall_mem.1 hz e he
   rw [hb] at hz'
   have hlt : e.on < m := by simpa using hz'
   have hon : e.on < ops.size := by omega
   have : ¬ listed.getD e.on true = false := fun h => m3 e.on hlt ⟨hon, h⟩
   simpa [Array.getD, hs, hon] using this
  ·left; simpa using hb
 rw [hnil] at this
 cases this
structure Pend (z : Value) (e : TypeId) (t b n0 : Nat) (S : Nat → Nat → Prop) (β : Blocks) (a : Act) (w : World) : Prop where
 tmp : t < a.tmps.size → a.tmps[t]? = some (.pointer (some ⟨b, 0, none⟩))
 new : n0 ≤ b
 lt : b < w.heap.size
 nb : ∀ r c k : Nat, β[r]? ≠ some (b, c, k + 1)
 ns : ∀ i, ¬ S b i
 at_ : w.heap[b]? = some (.cells z.cells e (0, 0))
theorem Pend.step {z v : Value} {e : TypeId} {t b n0 : Nat} {S S' : Nat → Nat → Prop} {β β' : Blocks} {a : Act} {w w' : World} {dst : Option Tmp} (h : Pend z e t b n0 S β a w) (hE : Ext DR S β w S' β' w') (hd : dst ≠ some t) : Pend z e t b n0 S' β' (a.put dst v) w' := by
 refine ⟨?_, h.new, Nat.lt_of_lt_of_le h.lt hE.size, fun r c k hr => ?_, fun i hs => ?_, (hE.rest b h.lt h.nb).trans h.at_⟩
 ·cases dst with
  | none => exact h.tmp
  | some u =>
   have hne : u ≠ t := fun e => hd (by rw [e])
   simp only [Act.put, Array.getElem?_setIfInBounds_ne hne, Array.size_setIfInBounds]
   exact h.tmp
 ·rcases hE.fresh r b c k hr with g | ⟨r', c', k', g⟩
  ·have := h.lt; omega
  ·exact h.nb _ _ _ g
 ·rcases hE.stay b i hs with g | g | ⟨r, c, k, g⟩
  ·exact h.ns i g
  ·have := h.lt; omega
  ·exact h.nb _ _ _ g
theorem reach_listedL {ops : Array Oper} {listed : Array Bool} (hsz : listed.size = ops.size) (hcl : ∀ (i : Nat) o (e : Edge), i < ops.size → listed.getD i true = true → ops[i]? = some o → e ∈ o.after → Region.binds .any e = true → listed.getD e.on false = true) : ∀ {j i : Nat}, Reach ops j i → (∀ (o : Oper) (e : Edge), ops[i]? = some o → e ∈ o.after → Region.binds .any e = true → listed.getD e.on false = true) → listed.getD j false = true := by
 intro j i h
 induction h with
 | edge i o e ho he hb => exact fun hall => hall o e ho he hb
 | step i j o e ho he hb hr ih =>
  intro hall
  have hon := hall o e ho he hb
  refine ih (fun o' e' ho' he' hb' => ?_)
  have hlt : e.on < ops.size := (Array.getElem?_eq_some_iff.1 ho').1
  exact hcl e.on o' e' hlt (by simpa [Array.getD, hsz, hlt] using hon) ho' he' hb'
theorem closed_set {ops : Array Oper} {listed : Array Bool} {i : Nat} {oi : Oper} (hsz : listed.size = ops.size) (hoi : ops[i]? = some oi) (hall : ∀ e ∈ oi.after, Region.binds .any e = true → listed.getD e.on false = true)
  (hcl : ∀ (i : Nat) o (e : Edge), i < ops.size → listed.getD i true = true → ops[i]? = some o → e ∈ o.after → Region.binds .any e = true → listed.getD e.on false = true) :
  ∀ (q : Nat) o (e : Edge), q < ops.size → (listed.setIfInBounds i true).getD q true = true → ops[q]? = some o → e ∈ o.after → Region.binds .any e = true → (listed.setIfInBounds i true).getD e.on false = true := by
 intro q o e hq hlq ho he hb
 have i1 : i < ops.size := (Array.getElem?_eq_some_iff.1 hoi).1
 have hup : ∀ x, listed.getD x false = true → (listed.setIfInBounds i true).getD x false = true := by
  intro x hx
  simp only [Array.getD_eq_getD_getElem?, Array.getElem?_setIfInBounds] at hx ⊢
  split
  ·rename_i hix
   subst hix
   rw [if_pos (by rw [hsz]; exact i1)]; rfl
  ·exact hx
 by_cases hqi : i = q
 ·subst hqi
  rw [hoi] at ho
  cases ho
  exact hup _ (hall e he hb)
 ·refine hup _ (hcl q o e hq ?_ ho he hb)
  rw [getD_set, if_neg hqi] at hlq
  exact hlq
theorem getD_tf {listed : Array Bool} {i : Nat} (h : i < listed.size) : listed.getD i false = listed.getD i true := by
 simp [Array.getD, h]
end Go.Abs
