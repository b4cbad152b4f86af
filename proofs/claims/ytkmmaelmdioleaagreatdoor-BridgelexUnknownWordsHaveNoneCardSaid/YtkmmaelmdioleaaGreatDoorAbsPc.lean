import Derived.Test.YtkmmaelmdioleaaGreatDoorAbsHC
namespace Go.Abs
set_option linter.unusedVariables false
set_option linter.unusedSimpArgs false
set_option linter.unnecessarySimpa false
set_option maxHeartbeats 1000000
variable {DR : Prop}
theorem skip_write {S : Nat → Nat → Prop} {β : Blocks} {w : World} {h : List AObj} (hi : HInv S β w h) {b : Nat} {vs : Array Value} {cur : Array Value} {e : TypeId} (hg : w.heap[b]? = some (.cells cur e (0, 0))) (nb : ∀ r c k : Nat, β[r]? ≠ some (b, c, k + 1)) (ns : ∀ i, ¬ S b i) :
  Keeps S w S (w.setRow b vs) ∧ HInv S β (w.setRow b vs) h := by
 have hoth : ∀ j, j ≠ b → (w.setRow b vs).heap[j]? = w.heap[j]? := fun j hj => setRow_other w b j _ hj
 have hsz : (w.setRow b vs).heap.size = w.heap.size := by simp
 have hk : Keeps S w S (w.setRow b vs) := fun c i hs => ⟨hs, look_of_block (hoth c (fun e => ns i (e ▸ hs)))⟩
 refine ⟨hk, hi.len, fun r o c c' k h1 h2 => ?_, fun r o c c' k h1 l1 h2 => by rw [hsz]; exact hi.lt r o c c' k h1 l1 h2, hi.inj, hi.own, fun c i hs => by rw [hsz]; exact hi.sb c i hs, hi.gl.mono hk, fun r c c' k hr => by rw [hsz]; exact hi.dl _ _ _ _ hr⟩
 refine (hi.obj r o c c' k h1 h2).mono hk (fun _ _ h => h) (fun hl => hoth c fun e => ?_)
 subst e
 obtain ⟨k0, rfl⟩ := hi.kpos h1 hl h2
 exact nb _ _ _ h2
structure PendC (n : Nat) (e : TypeId) (t b n0 : Nat) (S : Nat → Nat → Prop) (β : Blocks) (a : Act) (w : World) (st : Option (List D)) : Prop where
 tmp : t < a.tmps.size → a.tmps[t]? = some (.pointer (some ⟨b, 0, none⟩))
 new : n0 ≤ b
 lt : b < w.heap.size
 nb : ∀ r c k : Nat, β[r]? ≠ some (b, c, k + 1)
 ns : ∀ i, ¬ S b i
 at_ : ∃ cur, w.heap[b]? = some (.cells cur e (0, 0)) ∧ cur.size = n ∧ ∀ cs, st = some cs → cs.length = n ∧ ∀ (j : Nat) v d, cur[j]? = some v → cs[j]? = some d → RelD S β w v d
theorem PendC.tmpStep {n : Nat} {e : TypeId} {t b n0 : Nat} {S : Nat → Nat → Prop} {β : Blocks} {a : Act} {w : World} {st : Option (List D)} (h : PendC n e t b n0 S β a w st) {v : Value} {dst : Option Tmp} (hd : dst ≠ some t) : t < (a.put dst v).tmps.size → (a.put dst v).tmps[t]? = some (.pointer (some ⟨b, 0, none⟩)) := by
 cases dst with
 | none => exact h.tmp
 | some u =>
  have hne : u ≠ t := fun e => hd (by rw [e])
  simp only [Act.put, Array.getElem?_setIfInBounds_ne hne, Array.size_setIfInBounds]
  exact h.tmp
theorem PendC.step {n : Nat} {v : Value} {e : TypeId} {t b n0 : Nat} {S S' : Nat → Nat → Prop} {β β' : Blocks} {a : Act} {w w' : World} {dst : Option Tmp} {st : Option (List D)} (h : PendC n e t b n0 S β a w st) (hE : Ext DR S β w S' β' w') (hd : dst ≠ some t) : PendC n e t b n0 S' β' (a.put dst v) w' st := by
 obtain ⟨cur, h1, h2, h3⟩ := h.at_
 refine ⟨h.tmpStep hd, h.new, Nat.lt_of_lt_of_le h.lt hE.size, fun r c k hr => ?_, fun i hs => ?_, cur, (hE.rest b h.lt h.nb).trans h1, h2, fun cs hcs => ⟨(h3 cs hcs).1, fun j v d hv hd => ((h3 cs hcs).2 j v d hv hd).mono hE.keeps hE.pre⟩⟩
 ·rcases hE.fresh r b c k hr with g | ⟨r', c', k', g⟩
  ·have := h.lt; omega
  ·exact h.nb _ _ _ g
 ·rcases hE.stay b i hs with g | g | ⟨r, c, k, g⟩
  ·exact h.ns i g
  ·have := h.lt; omega
  ·exact h.nb _ _ _ g
theorem PendC.other {n : Nat} {v : Value} {e : TypeId} {t b n0 b' : Nat} {S : Nat → Nat → Prop} {β : Blocks} {a : Act} {w : World} {dst : Option Tmp} {vs : Array Value} {st : Option (List D)} (h : PendC n e t b n0 S β a w st) (hne : b ≠ b') (hk : Keeps S w S (w.setRow b' vs)) (hd : dst ≠ some t) : PendC n e t b n0 S β (a.put dst v) (w.setRow b' vs) st := by
 obtain ⟨cur, h1, h2, h3⟩ := h.at_
 exact ⟨h.tmpStep hd, h.new, by simpa using h.lt, h.nb, h.ns, cur, (setRow_other w b' b _ hne).trans h1, h2, fun cs hcs => ⟨(h3 cs hcs).1, fun j v d hv hd => ((h3 cs hcs).2 j v d hv hd).mono hk (fun _ _ h => h)⟩⟩
theorem aidx_ev {E : Env} {Γ : Calling} {ops : Array Oper} {x : Nat} : ∀ (l : List Nat) (σ σ1 : St), (∀ i ∈ l, ∀ o, ops[i]? = some o → o.dst ≠ some x) → aidx E Γ ops l σ = some σ1 → σ1.ev (.tmp x) = σ.ev (.tmp x)
 | [], σ, σ1, _, h => by simp only [aidx, Option.some.injEq] at h; rw [h]
 | i :: l, σ, σ1, hl, h => by
  simp only [aidx] at h
  split at h
  ·rename_i o ho
   split at h
   ·rename_i σ2 h2
    rw [aidx_ev l σ2 σ1 (fun j hj => hl j (List.mem_cons_of_mem _ hj)) h]
    have hd := hl i List.mem_cons_self o ho
    unfold aop at h2
    split at h2
    ·rename_i d h' _
     cases h2
     cases hdst : o.dst with
     | none => rfl
     | some u =>
      have hne : u ≠ x := fun e => hd (by rw [hdst, e])
      simp only [St.put, St.ev, List.getD, List.getElem?_set_ne hne]
    ·cases h2
   ·cases h
  ·cases h
theorem aop_len {E : Env} {Γ : Calling} {ops : List Oper} {o : Oper} {σ σ1 : St} (h : aop E Γ ops o σ = some σ1) : σ1.tmps.length = σ.tmps.length := by
 unfold aop at h
 split at h
 ·cases h
  cases o.dst <;> simp [St.put]
 ·cases h
structure RemT (ops : Array Oper) (m : Nat) (listed : Array Bool) (rem : List Nat) (p0 p1 s0 s1 : Bool) : Prop where
 size : listed.size = ops.size
 sorted : rem.Pairwise (· < ·)
 mem : ∀ i, i ∈ rem ↔ i < m ∧ listed.getD i true = false
 q0 : listed.getD m true = p0
 q1 : listed.getD (m + 1) true = p1
 z0 : listed.getD (m + 2) true = s0
 z1 : listed.getD (m + 3) true = s1
 closed : ∀ (i : Nat) o (e : Edge), i < ops.size → listed.getD i true = true → ops[i]? = some o → e ∈ o.after → Region.binds .any e = true → listed.getD e.on false = true
def left (p0 p1 s0 s1 : Bool) : Nat := (if p0 then 0 else 1) + (if p1 then 0 else 1) + (if s0 then 0 else 1) + (if s1 then 0 else 1)
def twoSt (σ : St) (t0 t1 : Nat) (c0 c1 : List D) : St := ⟨(σ.tmps.set t0 (.ptr σ.heap.length 0)).set t1 (.ptr (σ.heap.length + 1) 0), σ.heap ++ [.cells c0, .cells c1]⟩
theorem two_end {S0 S : Nat → Nat → Prop} {β0 β : Blocks} {w0 w : World} {σ : St} {a : Act} {t0 t1 b0 b1 n0 n1 e0 e1 : Nat} {c0 c1 : List D} (hI : Inv S β σ a w) (hE : Ext DR S0 β0 w0 S β w) (p0 : PendC n0 e0 t0 b0 w0.heap.size S β a w (some c0)) (p1 : PendC n1 e1 t1 b1 w0.heap.size S β a w (some c1))
  (hb : b0 ≠ b1) (ht : t0 ≠ t1) (hn0 : n0 ≤ maxLen) (hn1 : n1 ≤ maxLen) : ∃ β', Inv S β' (twoSt σ t0 t1 c0 c1) a w ∧ Ext DR S0 β0 w0 S β' w := by
 obtain ⟨cur0, x1, x2, x3⟩ := p0.at_
 obtain ⟨cur1, y1, y2, y3⟩ := p1.at_
 obtain ⟨x3, x4⟩ := x3 c0 rfl
 obtain ⟨y3, y4⟩ := y3 c1 rfl
 have hlen := hI.heap.len
 have hK : Keeps S w S w := fun _ _ h => ⟨h, rfl⟩
 have hp0 : ∀ (r : Nat) x, β[r]? = some x → (β ++ [(b0, n0, 1)])[r]? = some x := fun r x hx => (getElem?_snoc _ _ _ _).2 (.inl ⟨hx, lt_of_getElem? hx⟩)
 have hp1 : ∀ (r : Nat) x, (β ++ [(b0, n0, 1)])[r]? = some x → (β ++ [(b0, n0, 1)] ++ [(b1, n1, 1)])[r]? = some x := fun r x hx => (getElem?_snoc _ _ _ _).2 (.inl ⟨hx, lt_of_getElem? hx⟩)
 have hp : ∀ (r : Nat) x, β[r]? = some x → (β ++ [(b0, n0, 1)] ++ [(b1, n1, 1)])[r]? = some x := fun r x hx => hp1 r x (hp0 r x hx)
 have hH0 : HInv S (β ++ [(b0, n0, 1)]) w (σ.heap ++ [.cells c0]) :=
  adopt hI.heap p0.lt p0.nb p0.ns ⟨rfl, hn0, x3, cur0, e0, x1, x2, fun j v d hv hd => (x4 j v d hv hd).mono hK hp0⟩
 have hH1 : HInv S (β ++ [(b0, n0, 1)] ++ [(b1, n1, 1)]) w (σ.heap ++ [.cells c0] ++ [.cells c1]) :=
  adopt hH0 p1.lt (fun r c k hr => by
   rcases (getElem?_snoc _ _ _ _).1 hr with ⟨g, _⟩ | ⟨_, g⟩
   ·exact p1.nb _ _ _ g
   ·cases g; exact hb rfl) p1.ns ⟨rfl, hn1, y3, cur1, e1, y1, y2, fun j v d hv hd => (y4 j v d hv hd).mono hK hp⟩
 refine ⟨_, ⟨by simp [twoSt, hI.size], fun k v d g1 g2 => ?_, by simpa [twoSt] using hH1, hI.defers⟩, ⟨hE.keeps, fun r x hx => hp r x (hE.pre r x hx), hE.size, hE.rest, fun r b' c' k' hr => ?_, hE.os, hE.tape, hE.output, hE.drawn, hE.stay⟩⟩
 ·simp only [twoSt, List.getElem?_set, List.length_set] at g2
  by_cases h1 : t1 = k
  ·subst h1
   rw [if_pos rfl] at g2
   split at g2
   case isFalse => cases g2
   cases g2
   rw [p1.tmp (Array.getElem?_eq_some_iff.1 g1).1] at g1
   cases g1
   exact .ptr _ 0 b1 n1 1 (by rw [← hlen]; simp)
  ·rw [if_neg h1] at g2
   by_cases h0 : t0 = k
   ·subst h0
    rw [if_pos rfl] at g2
    split at g2
    case isFalse => cases g2
    cases g2
    rw [p0.tmp (Array.getElem?_eq_some_iff.1 g1).1] at g1
    cases g1
    exact .ptr _ 0 b0 n0 1 (by rw [← hlen]; simp)
   ·rw [if_neg h0] at g2
    exact (hI.tmps k v d g1 g2).mono hK hp
 ·rcases (getElem?_snoc _ _ _ _).1 hr with ⟨g, _⟩ | ⟨_, g⟩
  ·rcases (getElem?_snoc _ _ _ _).1 g with ⟨g, _⟩ | ⟨_, g⟩
   ·exact hE.fresh r b' c' k' g
   ·cases g; exact .inl p0.new
  ·cases g; exact .inl p1.new
structure Plan2 (E : Env) (ops : Array Oper) (m e0 e1 t0 t1 x0 x1 k0 k1 : Nat) : Prop where
 size : m + 4 = ops.size
 back : ops.toList.zipIdx.all (fun x => x.1.after.all fun e => !Region.binds .any e || decide (e.on < x.2)) = true
 a0 : ∃ o, ops[m]? = some o ∧ opAlloc o = some (e0, t0)
 a1 : ∃ o, ops[m + 1]? = some o ∧ opAlloc o = some (e1, t1)
 s0 : ∃ o, ops[m + 2]? = some o ∧ opStore o = some (e0, t0, x0) ∧ bindsOn o m = true ∧ bindsOn o k0 = true
 s1 : ∃ o, ops[m + 3]? = some o ∧ opStore o = some (e1, t1, x1) ∧ bindsOn o (m + 1) = true ∧ bindsOn o k1 = true
 k : k0 < m ∧ k1 < m
 ne : t0 ≠ t1 ∧ x0 ≠ t0 ∧ x0 ≠ t1 ∧ x1 ≠ t0 ∧ x1 ≠ t1
 free : ∀ i, i < m → ∃ y, ops[i]? = some y ∧ t0 ∉ y.looksAt ops ∧ t1 ∉ y.looksAt ops ∧ y.dst ≠ some t0 ∧ y.dst ≠ some t1 ∧ (y.dst = some x0 → i = k0) ∧ (y.dst = some x1 → i = k1)
 com : ∀ i j, i < m → j < i → Reach ops j i ∨ ∃ x y, ops[j]? = some x ∧ ops[i]? = some y ∧ commutes E ops x y = true
theorem bindsOn_listed {o : Oper} {k : Nat} {listed : Array Bool} (h : bindsOn o k = true) (hall : ∀ e ∈ o.after, Region.binds .any e = true → listed.getD e.on false = true) : listed.getD k false = true := by
 unfold bindsOn at h
 obtain ⟨e, he, h2⟩ := Array.any_eq_true'.1 h
 rw [Bool.and_eq_true, beq_iff_eq] at h2
 have := hall e he h2.1
 rw [h2.2] at this
 exact this
theorem two_sound {P : Program} {E : Env} {Γ : Calling} (hT : ∀ t i, E.T t = some i → tiOf P t = some i) (hΓ : CSound DR P Γ) {ops : Array Oper} {m e0 e1 t0 t1 x0 x1 k0 k1 : Nat} (hP : Plan2 E ops m e0 e1 t0 t1 x0 x1 k0 k1) {i0 i1 : TI} (hi0 : E.T e0 = some i0) (hi1 : E.T e1 = some i1)
  (hz0 : i0.zero.cells.length = i0.size) (hz1 : i1.zero.cells.length = i1.size) (hm0 : i0.size ≤ maxLen) (hm1 : i1.size ≤ maxLen) {v0 v1 : D} (hs0 : v0.solid = true ∧ v0.cells.length = i0.size) (hs1 : v1.solid = true ∧ v1.cells.length = i1.size)
  {Q : Exit → Act → World → Prop} {S0 : Nat → Nat → Prop} {β0 : Blocks} {w0 : World} {σ1 : St} {L : Nat} (hL0 : t0 < L) (hL1 : t1 < L) (hv0 : σ1.ev (.tmp x0) = v0) (hv1 : σ1.ev (.tmp x1) = v1)
  (hQ : ∀ S' β' a' w', Inv S' β' (twoSt σ1 t0 t1 v0.cells v1.cells) a' w' → Ext DR S0 β0 w0 S' β' w' → Q .normal a' w') :
  ∀ (fuel : Nat) (rem : List Nat) (listed : Array Bool) (p0 p1 : Option Nat) (s0 s1 : Bool) {S : Nat → Nat → Prop} {β : Blocks} {σ : St} {a : Act} {w : World},
  rem.length + left p0.isSome p1.isSome s0 s1 = fuel → RemT ops m listed rem p0.isSome p1.isSome s0 s1 → Inv S β σ a w → σ.tmps.length = L → σ.und t0 = σ → σ.und t1 = σ → aidx E Γ ops rem σ = some σ1 →
  (∀ b, p0 = some b → PendC i0.size e0 t0 b w0.heap.size S β a w (if s0 then some v0.cells else none)) → (∀ b, p1 = some b → PendC i1.size e1 t1 b w0.heap.size S β a w (if s1 then some v1.cells else none)) →
  (∀ b b', p0 = some b → p1 = some b' → b ≠ b') → Ext DR S0 β0 w0 S β w → wpAny P .any ops Q fuel listed a w := by
 have hsz := hP.size
 intro fuel
 induction fuel with
 | zero =>
  intro rem listed p0 p1 s0 s1 S β σ a w hl hR hI hLn hu0 hu1 hs hp0 hp1 hne hE
  have hrem : rem = [] := List.length_eq_zero_iff.1 (by omega)
  have hl0 : left p0.isSome p1.isSome s0 s1 = 0 := by omega
  have hb : p0.isSome = true ∧ p1.isSome = true ∧ s0 = true ∧ s1 = true := by
   unfold left at hl0
   revert hl0
   generalize p0.isSome = u
   generalize p1.isSome = v
   cases u <;> cases v <;> cases s0 <;> cases s1 <;> decide
  obtain ⟨q0, q1, rfl, rfl⟩ := hb
  obtain ⟨b0, rfl⟩ := Option.isSome_iff_exists.1 q0
  obtain ⟨b1, rfl⟩ := Option.isSome_iff_exists.1 q1
  subst hrem
  simp only [aidx, Option.some.injEq] at hs
  subst hs
  refine ⟨?_, ?_⟩
  ·rw [List.eq_nil_iff_forall_not_mem]
   intro j hj
   obtain ⟨j1, j2, _⟩ := ready_spec hj
   by_cases h : j < m
   ·have := (hR.mem j).2 ⟨h, j2⟩
    cases this
   ·have : j = m ∨ j = m + 1 ∨ j = m + 2 ∨ j = m + 3 := by omega
    rcases this with rfl | rfl | rfl | rfl
    ·rw [hR.q0] at j2; cases j2
    ·rw [hR.q1] at j2; cases j2
    ·rw [hR.z0] at j2; cases j2
    ·rw [hR.z1] at j2; cases j2
  ·obtain ⟨β', h1, h2⟩ := two_end hI hE (hp0 b0 rfl) (hp1 b1 rfl) (hne _ _ rfl rfl) hP.ne.1 hm0 hm1
   exact hQ S β' a w h1 h2
 | succ fuel ih =>
  intro rem listed p0 p1 s0 s1 S β σ a w hl hR hI hLn hu0 hu1 hs hp0 hp1 hne hE
  refine ⟨fun hready => ?_, fun i hi => ?_⟩
  ·have : ∃ j, j < ops.size ∧ listed.getD j true = false := by
    by_cases hrem : rem = []
    ·have hl0 : 0 < left p0.isSome p1.isSome s0 s1 := by rw [hrem] at hl; simp at hl; omega
     unfold left at hl0
     have q0 := hR.q0; have q1 := hR.q1; have z0 := hR.z0; have z1 := hR.z1
     revert hl0 q0 q1 z0 z1
     generalize p0.isSome = u
     generalize p1.isSome = v
     intro hl0 q0 q1 z0 z1
     cases u
     ·exact ⟨m, by omega, q0⟩
     cases v
     ·exact ⟨m + 1, by omega, q1⟩
     cases s0
     ·exact ⟨m + 2, by omega, z0⟩
     cases s1
     ·exact ⟨m + 3, by omega, z1⟩
     exact absurd hl0 (by decide)
    ·obtain ⟨j, r, rfl⟩ := List.exists_cons_of_ne_nil hrem
     obtain ⟨h1, h2⟩ := (hR.mem j).1 List.mem_cons_self
     exact ⟨j, by omega, h2⟩
   obtain ⟨j, hj, hlj⟩ := this
   exact absurd hready (ready_some hR.size hP.back hj hlj)
  obtain ⟨j1, j2, oi, hoi, hall⟩ := ready_spec hi
  have hcl := closed_set hR.size hoi hall hR.closed
  have hun : ∀ (v : Value) (t : Nat), σ.und t = σ → σ.put (some t) .undef σ.heap = σ := fun _ t h => h
  by_cases him : i < m
  ·have hmem : i ∈ rem := (hR.mem i).2 ⟨him, j2⟩
   obtain ⟨pre, post, rfl⟩ := List.append_of_mem hmem
   have hsort := hR.sorted
   have hprelt : ∀ j ∈ pre, j < i := fun j hj => by
    rw [List.pairwise_append] at hsort
    exact hsort.2.2 j hj i List.mem_cons_self
   have hpost : ∀ j ∈ post, i < j := fun j hj => by
    rw [List.pairwise_append, List.pairwise_cons] at hsort
    exact hsort.2.1.1 j hj
   have hcomm : ∀ j ∈ pre, ∃ oj, ops[j]? = some oj ∧ commutes E ops oj oi = true := by
    intro j hj
    have hji := hprelt j hj
    obtain ⟨_, j3⟩ := (hR.mem j).1 (List.mem_append_left _ hj)
    rcases hP.com i j him hji with h3 | ⟨x, y, g1, g2, g3⟩
    ·exfalso
     have := reach_listedL hR.size hR.closed h3 (fun o e ho he hb => by rw [hoi] at ho; cases ho; exact hall e he hb)
     rw [getD_tf (by rw [hR.size]; omega), j3] at this
     cases this
    ·rw [hoi] at g2; cases g2
     exact ⟨x, g1, g3⟩
   obtain ⟨σa, h3, h4⟩ := aidx_take hoi (J := fun _ => True) (fun _ _ _ _ _ _ _ => trivial) pre post σ σ1 trivial (fun j hj => let ⟨oj, g1, g2⟩ := hcomm j hj; ⟨oj, g1, fun _ _ _ _ k1 k2 => aop_comm g2 k1 k2⟩) hs
   obtain ⟨y, hy, l0, l1, d0, d1, _⟩ := hP.free i him
   rw [hoi] at hy
   cases hy
   have ha0 : σa.und t0 = σa := by
    have := aop_und l0 d0 h3
    rw [hu0, h3] at this
    exact (Option.some.inj this).symm
   have ha1 : σa.und t1 = σa := by
    have := aop_und l1 d1 h3
    rw [hu1, h3] at this
    exact (Option.some.inj this).symm
   refine aop_sound_put hT hΓ hoi hI h3 (fun S1 β1 v w1 hI1 hE1 => ?_)
   refine ih (pre ++ post) _ p0 p1 s0 s1 (by simp at hl ⊢; omega) ⟨by simp [hR.size], ?_, fun k => ?_, ?_, ?_, ?_, ?_, hcl⟩ hI1 ((aop_len h3).trans hLn) ha0 ha1 h4 (fun b hb => (hp0 b hb).step hE1 d0) (fun b hb => (hp1 b hb).step hE1 d1) hne (hE.trans hE1)
   ·rw [List.pairwise_append] at hsort ⊢
    exact ⟨hsort.1, (List.pairwise_cons.1 hsort.2.1).2, fun x hx y hy => hsort.2.2 x hx y (List.mem_cons_of_mem _ hy)⟩
   ·have hk := hR.mem k
    simp only [List.mem_append, List.mem_cons] at hk ⊢
    rw [getD_set]
    by_cases hki : i = k
    ·subst hki
     simp only [if_true]
     constructor
     ·rintro (h | h)
      ·have := hprelt i h; omega
      ·have := hpost i h; omega
     ·rintro ⟨_, h⟩; cases h
    ·rw [if_neg hki]
     constructor
     ·rintro (h | h)
      ·exact hk.1 (.inl h)
      ·exact hk.1 (.inr (.inr h))
     ·intro h
      rcases hk.2 h with h | h | h
      ·exact .inl h
      ·exact absurd h.symm hki
      ·exact .inr h
   ·rw [getD_set, if_neg (by omega)]; exact hR.q0
   ·rw [getD_set, if_neg (by omega)]; exact hR.q1
   ·rw [getD_set, if_neg (by omega)]; exact hR.z0
   ·rw [getD_set, if_neg (by omega)]; exact hR.z1
  have hset : ∀ k, k ≠ i → (listed.setIfInBounds i true).getD k true = listed.getD k true := fun k hk => by rw [getD_set, if_neg (fun h => hk h.symm)]
  have hmem' : ∀ k, k ∈ rem ↔ k < m ∧ (listed.setIfInBounds i true).getD k true = false := fun k => by
   rw [hR.mem k]
   constructor
   ·rintro ⟨g1, g2⟩; exact ⟨g1, by rw [hset k (by omega)]; exact g2⟩
   ·rintro ⟨g1, g2⟩; exact ⟨g1, by rw [hset k (by omega)] at g2; exact g2⟩
  have hself : (listed.setIfInBounds i true).getD i true = true := by rw [getD_set, if_pos rfl]
  by_cases him0 : i = m
  ·obtain ⟨o, ho, hoa⟩ := hP.a0
   rw [← him0, hoi] at ho
   cases ho
   obtain ⟨hop, hds, hgu⟩ := opAlloc_spec hoa
   have hpn : p0.isSome = false := by rw [← hR.q0, ← him0]; exact j2
   have hsn : s0 = false := by
    cases hs0' : s0 with
    | false => rfl
    | true =>
     exfalso
     obtain ⟨o2, ho2, _, hbd, _⟩ := hP.s0
     have h5 := bindsOn_listed hbd (fun e he hb => hR.closed (m + 2) o2 e (by omega) (by rw [hR.z0, hs0']) ho2 he hb)
     rw [getD_tf (by rw [hR.size]; omega), ← him0, j2] at h5
     cases h5
   subst hsn
   have hpo : p0 = none := by cases hh : p0 with
    | none => rfl
    | some b => rw [hh] at hpn; cases hpn
   subst hpo
   obtain ⟨info, desc, zv, g1, g2, g3, g4, _⟩ := tiOf_spec (hT _ _ hi0)
   have hzc : zv.cells.size = i0.size := by
    have hzs : RelD S β w zv (.v i0.zero) := .v _ _ (ofValue_rel g4)
    have := (hzs.cells (ofValue_solid g4)).1
    rw [this, ← hz0]
    simp [D.cells]
   unfold wpOp
   simp only [hoi]
   rw [if_pos (by unfold Region.wanted; rw [hgu])]
   have hrun : (execOp a.eval oi).run P w = .ok (.value (.pointer (some ⟨w.heap.size, 0, none⟩))) (w.alloc (.cells zv.cells e0)) := by
    rw [show execOp a.eval oi = execOp a.eval { oi with op := .alloc e0 } by rw [← hop]]
    simp [execOp, Instr.alloc, zeroValue, run_typeInfo g1, g3, newVar, newRow]
   refine .inl (wp_of_value hrun ?_)
   obtain ⟨e1, e2⟩ := skip_alloc (DR := DR) hI.heap (.cells zv.cells e0)
   have hput : σ.put (some t0) .undef σ.heap = σ := hu0
   have hI1 := hI.put e1 e2 (.undef (.pointer (some ⟨w.heap.size, 0, none⟩))) (some t0)
   rw [hput, ← hds] at hI1
   refine ih rem _ (some w.heap.size) p1 false s1 (by simp only [left, Option.isSome] at hl ⊢; simp at hl ⊢; omega) ⟨by simp [hR.size], hR.sorted, hmem', by rw [← him0]; exact hself, by rw [hset _ (by omega)]; exact hR.q1, by rw [hset _ (by omega)]; exact hR.z0, by rw [hset _ (by omega)]; exact hR.z1, hcl⟩ hI1 hLn hu0 hu1 hs (fun b hb => ?_) (fun b hb => (hp1 b hb).step e1 (by rw [hds]; exact fun h => hP.ne.1 (Option.some.inj h))) (fun b b' g1 g2 => by cases g1; have := (hp1 b' g2).lt; omega) (hE.trans e1)
   cases hb
   refine ⟨fun hta => ?_, hE.size, by simp, fun r c k hr => ?_, fun j hj => ?_, zv.cells, heap_alloc_new w _, hzc, fun cs h => by cases h⟩
   ·rw [hds] at hta ⊢
    have : t0 < a.tmps.size := by simpa [Act.put] using hta
    simp [Act.put, this]
   ·have := hI.heap.dl _ _ _ _ hr; omega
   ·have := hI.heap.sb _ j hj; omega
  by_cases him1 : i = m + 1
  ·obtain ⟨o, ho, hoa⟩ := hP.a1
   rw [← him1, hoi] at ho
   cases ho
   obtain ⟨hop, hds, hgu⟩ := opAlloc_spec hoa
   have hpn : p1.isSome = false := by rw [← hR.q1, ← him1]; exact j2
   have hsn : s1 = false := by
    cases hs1' : s1 with
    | false => rfl
    | true =>
     exfalso
     obtain ⟨o2, ho2, _, hbd, _⟩ := hP.s1
     have h5 := bindsOn_listed hbd (fun e he hb => hR.closed (m + 3) o2 e (by omega) (by rw [hR.z1, hs1']) ho2 he hb)
     rw [getD_tf (by rw [hR.size]; omega), ← him1, j2] at h5
     cases h5
   subst hsn
   have hpo : p1 = none := by cases hh : p1 with
    | none => rfl
    | some b => rw [hh] at hpn; cases hpn
   subst hpo
   obtain ⟨info, desc, zv, g1, g2, g3, g4, _⟩ := tiOf_spec (hT _ _ hi1)
   have hzc : zv.cells.size = i1.size := by
    have hzs : RelD S β w zv (.v i1.zero) := .v _ _ (ofValue_rel g4)
    have := (hzs.cells (ofValue_solid g4)).1
    rw [this, ← hz1]
    simp [D.cells]
   unfold wpOp
   simp only [hoi]
   rw [if_pos (by unfold Region.wanted; rw [hgu])]
   have hrun : (execOp a.eval oi).run P w = .ok (.value (.pointer (some ⟨w.heap.size, 0, none⟩))) (w.alloc (.cells zv.cells e1)) := by
    rw [show execOp a.eval oi = execOp a.eval { oi with op := .alloc e1 } by rw [← hop]]
    simp [execOp, Instr.alloc, zeroValue, run_typeInfo g1, g3, newVar, newRow]
   refine .inl (wp_of_value hrun ?_)
   obtain ⟨e1, e2⟩ := skip_alloc (DR := DR) hI.heap (.cells zv.cells e1)
   have hput : σ.put (some t1) .undef σ.heap = σ := hu1
   have hI1 := hI.put e1 e2 (.undef (.pointer (some ⟨w.heap.size, 0, none⟩))) (some t1)
   rw [hput, ← hds] at hI1
   refine ih rem _ p0 (some w.heap.size) s0 false (by simp only [left, Option.isSome] at hl ⊢; simp at hl ⊢; omega) ⟨by simp [hR.size], hR.sorted, hmem', by rw [hset _ (by omega)]; exact hR.q0, by rw [← him1]; exact hself, by rw [hset _ (by omega)]; exact hR.z0, by rw [hset _ (by omega)]; exact hR.z1, hcl⟩ hI1 hLn hu0 hu1 hs (fun b hb => (hp0 b hb).step e1 (by rw [hds]; exact fun h => hP.ne.1 (Option.some.inj h).symm)) (fun b hb => ?_) (fun b b' g1 g2 => by cases g2; have := (hp0 b g1).lt; omega) (hE.trans e1)
   cases hb
   refine ⟨fun hta => ?_, hE.size, by simp, fun r c k hr => ?_, fun j hj => ?_, zv.cells, heap_alloc_new w _, hzc, fun cs h => by cases h⟩
   ·rw [hds] at hta ⊢
    have : t1 < a.tmps.size := by simpa [Act.put] using hta
    simp [Act.put, this]
   ·have := hI.heap.dl _ _ _ _ hr; omega
   ·have := hI.heap.sb _ j hj; omega
  by_cases him2 : i = m + 2
  ·obtain ⟨o, ho, hst, hbd, hbk⟩ := hP.s0
   rw [← him2, hoi] at ho
   cases ho
   obtain ⟨hop, hds, hgu⟩ := opStore_spec hst
   have hpn : p0.isSome = true := by
    have h5 := bindsOn_listed hbd hall
    rw [getD_tf (by rw [hR.size]; omega), hR.q0] at h5
    exact h5
   obtain ⟨b, rfl⟩ := Option.isSome_iff_exists.1 hpn
   have hsn : s0 = false := by rw [← hR.z0, ← him2]; exact j2
   subst hsn
   have P0 := hp0 b rfl
   have hev : σ.ev (.tmp x0) = v0 := by
    rw [← hv0]
    refine (aidx_ev rem σ σ1 (fun j hj o ho hd => ?_) hs).symm
    obtain ⟨jm, jl⟩ := (hR.mem j).1 hj
    obtain ⟨y, hy, _, _, _, _, f0, f1⟩ := hP.free j jm
    rw [ho] at hy
    cases hy
    have hjk := f0 hd
    have h5 := bindsOn_listed hbk hall
    rw [getD_tf (by rw [hR.size]; omega), ← hjk, jl] at h5
    cases h5
   have hu : RelD S β w (a.eval (.tmp x0)) v0 := hev ▸ hI.ev (.tmp x0)
   obtain ⟨c1, c2⟩ := hu.cells hs0.1
   have c3 := hu.cells_one hs0.1
   have hpt : a.eval (.tmp t0) = .pointer (some ⟨b, 0, none⟩) := by
    have := P0.tmp (by rw [hI.size]; omega)
    simp [Act.eval, this]
   obtain ⟨cur, h1, h2, _⟩ := P0.at_
   obtain ⟨info, desc, z, g1, g2, g3, g4, g5, g6, g7, g8, _⟩ := tiOf_spec (hT _ _ hi0)
   have hsz2 : (a.eval (.tmp x0)).cells.toList.length = cur.size := by simp [c1, hs0.2, h2]
   have hrow : spliceA cur 0 (a.eval (.tmp x0)).cells.toList = (a.eval (.tmp x0)).cells := by
    unfold spliceA
    rw [List.take_zero, List.nil_append, List.drop_of_length_le (by rw [Nat.zero_add, hsz2]; simp), List.append_nil]
   have hrun0 : (Instr.storeAt e0 (a.eval (.tmp t0)) (a.eval (.tmp x0))).run P w = .ok () (w.setRow b (a.eval (.tmp x0)).cells) := by
    have := run_store_own (P := P) (w := w) (off := 0) (vs := (a.eval (.tmp x0)).cells.toList) h1 (by omega) c3
    rw [hrow] at this
    rw [hpt]
    simp [Instr.storeAt, Instr.sureAddr, storeVar, run_sizeOf g1, g7, c1, hs0.2, this]
   have hrun : (execOp a.eval oi).run P w = .ok .skip (w.setRow b (a.eval (.tmp x0)).cells) := by
    rw [show execOp a.eval oi = execOp a.eval { oi with op := .store e0 (.tmp t0) (.tmp x0) } by rw [← hop]]
    simp [execOp, hrun0]
   unfold wpOp
   simp only [hoi]
   rw [if_pos (by unfold Region.wanted; rw [hgu])]
   refine .inl (wp_of_skip hrun ?_)
   obtain ⟨hk, hH⟩ := skip_write hI.heap (vs := (a.eval (.tmp x0)).cells) h1 P0.nb P0.ns
   have hI1 : Inv S β σ (a.put oi.dst undef) (w.setRow b (a.eval (.tmp x0)).cells) := by
    rw [hds]
    exact ⟨hI.size, fun i v d q1 q2 => (hI.tmps i v d q1 q2).mono hk (fun _ _ h => h), hH, hI.defers⟩
   have hE1 : Ext DR S0 β0 w0 S β (w.setRow b (a.eval (.tmp x0)).cells) :=
    ⟨fun c i hs => ⟨(hE.keeps c i hs).1, ((hk c i (hE.keeps c i hs).1).2).trans (hE.keeps c i hs).2⟩, hE.pre, by simpa using hE.size, fun j hj hnb => (setRow_other w b j _ (by have := P0.new; omega)).trans (hE.rest j hj hnb), hE.fresh, hE.os, hE.tape, hE.output, hE.drawn, hE.stay⟩
   refine ih rem _ (some b) p1 true s1 (by simp only [left, Option.isSome] at hl ⊢; simp at hl ⊢; omega) ⟨by simp [hR.size], hR.sorted, hmem', by rw [hset _ (by omega)]; exact hR.q0, by rw [hset _ (by omega)]; exact hR.q1, by rw [← him2]; exact hself, by rw [hset _ (by omega)]; exact hR.z1, hcl⟩ hI1 hLn hu0 hu1 hs (fun b2 hb => ?_) (fun b' hb => (hp1 b' hb).other (fun e => (hne b b' rfl hb e.symm)) hk (by rw [hds]; exact fun h => nomatch h)) hne hE1
   cases hb
   refine ⟨P0.tmpStep (by rw [hds]; exact fun h => nomatch h), P0.new, by simpa using P0.lt, P0.nb, P0.ns, (a.eval (.tmp x0)).cells, setRow_heap w b cur _ e0 _ h1, by rw [c1, hs0.2], fun cs h => ?_⟩
   cases h
   exact ⟨hs0.2, fun j v d q1 q2 => (c2 j v d q1 q2).mono hk (fun _ _ h => h)⟩
  by_cases him3 : i = m + 3
  ·obtain ⟨o, ho, hst, hbd, hbk⟩ := hP.s1
   rw [← him3, hoi] at ho
   cases ho
   obtain ⟨hop, hds, hgu⟩ := opStore_spec hst
   have hpn : p1.isSome = true := by
    have h5 := bindsOn_listed hbd hall
    rw [getD_tf (by rw [hR.size]; omega), hR.q1] at h5
    exact h5
   obtain ⟨b, rfl⟩ := Option.isSome_iff_exists.1 hpn
   have hsn : s1 = false := by rw [← hR.z1, ← him3]; exact j2
   subst hsn
   have P0 := hp1 b rfl
   have hev : σ.ev (.tmp x1) = v1 := by
    rw [← hv1]
    refine (aidx_ev rem σ σ1 (fun j hj o ho hd => ?_) hs).symm
    obtain ⟨jm, jl⟩ := (hR.mem j).1 hj
    obtain ⟨y, hy, _, _, _, _, f0, f1⟩ := hP.free j jm
    rw [ho] at hy
    cases hy
    have hjk := f1 hd
    have h5 := bindsOn_listed hbk hall
    rw [getD_tf (by rw [hR.size]; omega), ← hjk, jl] at h5
    cases h5
   have hu : RelD S β w (a.eval (.tmp x1)) v1 := hev ▸ hI.ev (.tmp x1)
   obtain ⟨c1, c2⟩ := hu.cells hs1.1
   have c3 := hu.cells_one hs1.1
   have hpt : a.eval (.tmp t1) = .pointer (some ⟨b, 0, none⟩) := by
    have := P0.tmp (by rw [hI.size]; omega)
    simp [Act.eval, this]
   obtain ⟨cur, h1, h2, _⟩ := P0.at_
   obtain ⟨info, desc, z, g1, g2, g3, g4, g5, g6, g7, g8, _⟩ := tiOf_spec (hT _ _ hi1)
   have hsz2 : (a.eval (.tmp x1)).cells.toList.length = cur.size := by simp [c1, hs1.2, h2]
   have hrow : spliceA cur 0 (a.eval (.tmp x1)).cells.toList = (a.eval (.tmp x1)).cells := by
    unfold spliceA
    rw [List.take_zero, List.nil_append, List.drop_of_length_le (by rw [Nat.zero_add, hsz2]; simp), List.append_nil]
   have hrun0 : (Instr.storeAt e1 (a.eval (.tmp t1)) (a.eval (.tmp x1))).run P w = .ok () (w.setRow b (a.eval (.tmp x1)).cells) := by
    have := run_store_own (P := P) (w := w) (off := 0) (vs := (a.eval (.tmp x1)).cells.toList) h1 (by omega) c3
    rw [hrow] at this
    rw [hpt]
    simp [Instr.storeAt, Instr.sureAddr, storeVar, run_sizeOf g1, g7, c1, hs1.2, this]
   have hrun : (execOp a.eval oi).run P w = .ok .skip (w.setRow b (a.eval (.tmp x1)).cells) := by
    rw [show execOp a.eval oi = execOp a.eval { oi with op := .store e1 (.tmp t1) (.tmp x1) } by rw [← hop]]
    simp [execOp, hrun0]
   unfold wpOp
   simp only [hoi]
   rw [if_pos (by unfold Region.wanted; rw [hgu])]
   refine .inl (wp_of_skip hrun ?_)
   obtain ⟨hk, hH⟩ := skip_write hI.heap (vs := (a.eval (.tmp x1)).cells) h1 P0.nb P0.ns
   have hI1 : Inv S β σ (a.put oi.dst undef) (w.setRow b (a.eval (.tmp x1)).cells) := by
    rw [hds]
    exact ⟨hI.size, fun i v d q1 q2 => (hI.tmps i v d q1 q2).mono hk (fun _ _ h => h), hH, hI.defers⟩
   have hE1 : Ext DR S0 β0 w0 S β (w.setRow b (a.eval (.tmp x1)).cells) :=
    ⟨fun c i hs => ⟨(hE.keeps c i hs).1, ((hk c i (hE.keeps c i hs).1).2).trans (hE.keeps c i hs).2⟩, hE.pre, by simpa using hE.size, fun j hj hnb => (setRow_other w b j _ (by have := P0.new; omega)).trans (hE.rest j hj hnb), hE.fresh, hE.os, hE.tape, hE.output, hE.drawn, hE.stay⟩
   refine ih rem _ p0 (some b) s0 true (by simp only [left, Option.isSome] at hl ⊢; simp at hl ⊢; omega) ⟨by simp [hR.size], hR.sorted, hmem', by rw [hset _ (by omega)]; exact hR.q0, by rw [hset _ (by omega)]; exact hR.q1, by rw [hset _ (by omega)]; exact hR.z0, by rw [← him3]; exact hself, hcl⟩ hI1 hLn hu0 hu1 hs (fun b' hb => (hp0 b' hb).other (fun e => (hne b' b hb rfl e)) hk (by rw [hds]; exact fun h => nomatch h)) (fun b2 hb => ?_) hne hE1
   cases hb
   refine ⟨P0.tmpStep (by rw [hds]; exact fun h => nomatch h), P0.new, by simpa using P0.lt, P0.nb, P0.ns, (a.eval (.tmp x1)).cells, setRow_heap w b cur _ e1 _ h1, by rw [c1, hs1.2], fun cs h => ?_⟩
   cases h
   exact ⟨hs1.2, fun j v d q1 q2 => (c2 j v d q1 q2).mono hk (fun _ _ h => h)⟩
  omega
def plan2B (E : Env) (ops : Array Oper) (m e0 e1 t0 t1 x0 x1 k0 k1 : Nat) : Bool :=
 let b := Region.before ops
 (m + 4 == ops.size) && (ops.toList.zipIdx.all (fun x => x.1.after.all fun e => !Region.binds .any e || decide (e.on < x.2)) &&
 ((match ops[m]? with | some o => opAlloc o == some (e0, t0) | none => false) && ((match ops[m + 1]? with | some o => opAlloc o == some (e1, t1) | none => false) &&
 ((match ops[m + 2]? with | some o => opStore o == some (e0, t0, x0) && (bindsOn o m && bindsOn o k0) | none => false) && ((match ops[m + 3]? with | some o => opStore o == some (e1, t1, x1) && (bindsOn o (m + 1) && bindsOn o k1) | none => false) &&
 (decide (k0 < m ∧ k1 < m ∧ t0 ≠ t1 ∧ x0 ≠ t0 ∧ x0 ≠ t1 ∧ x1 ≠ t0 ∧ x1 ≠ t1) &&
 ((List.range m).all (fun i => match ops[i]? with
  | some y => !(y.looksAt ops).contains t0 && (!(y.looksAt ops).contains t1 && (y.dst != some t0 && (y.dst != some t1 && ((y.dst != some x0 || i == k0) && (y.dst != some x1 || i == k1)))))
  | none => false) &&
 (List.range m).all fun i => (List.range i).all fun j => (b.getD i 0).testBit j || (match ops[j]?, ops[i]? with
  | some x, some y => commutes E ops x y
  | _, _ => false))))))))
theorem plan2_of {E : Env} {ops : Array Oper} {m e0 e1 t0 t1 x0 x1 k0 k1 : Nat} (h : plan2B E ops m e0 e1 t0 t1 x0 x1 k0 k1 = true) : Plan2 E ops m e0 e1 t0 t1 x0 x1 k0 k1 := by
 unfold plan2B at h
 simp only [Bool.and_eq_true, beq_iff_eq, decide_eq_true_eq] at h
 obtain ⟨h1, h2, h3, h4, h5, h6, ⟨g1, g2, g3⟩, h8, h9⟩ := h
 refine ⟨h1, h2, ?_, ?_, ?_, ?_, ⟨g1, g2⟩, g3, fun i hi => ?_, fun i j hi hj => ?_⟩
 ·split at h3
  ·rename_i o ho; exact ⟨o, ho, by simpa using h3⟩
  ·cases h3
 ·split at h4
  ·rename_i o ho; exact ⟨o, ho, by simpa using h4⟩
  ·cases h4
 ·split at h5
  ·rename_i o ho
   simp only [Bool.and_eq_true, beq_iff_eq] at h5
   exact ⟨o, ho, h5⟩
  ·cases h5
 ·split at h6
  ·rename_i o ho
   simp only [Bool.and_eq_true, beq_iff_eq] at h6
   exact ⟨o, ho, h6⟩
  ·cases h6
 ·have h0 := List.all_eq_true.1 h8 i (List.mem_range.2 hi)
  split at h0
  ·rename_i y hy
   simp only [Bool.and_eq_true, Bool.or_eq_true, Bool.not_eq_true', bne_iff_ne, ne_eq, beq_iff_eq] at h0
   obtain ⟨a1, a2, a3, a4, a5, a6⟩ := h0
   refine ⟨y, hy, by simpa using a1, by simpa using a2, a3, a4, fun e => ?_, fun e => ?_⟩
   ·rcases a5 with a5 | a5
    ·exact absurd e a5
    ·exact a5
   ·rcases a6 with a6 | a6
    ·exact absurd e a6
    ·exact a6
  ·cases h0
 ·have h0 := List.all_eq_true.1 (List.all_eq_true.1 h9 i (List.mem_range.2 hi)) j (List.mem_range.2 hj)
  rw [Bool.or_eq_true] at h0
  rcases h0 with h0 | h0
  ·exact .inl (before_reach ops h0)
  ·split at h0
   ·rename_i x y hx hy
    exact .inr ⟨x, y, hx, hy, h0⟩
   ·cases h0
theorem aseg_aidx {X : Cx} {ops : Array Oper} : ∀ (k i : Nat) (σ : St), aidx X.E X.Γ ops (List.range' i k) σ = aseg X ops.toList k i σ
 | 0, i, σ => rfl
 | k + 1, i, σ => by
  rw [List.range'_succ]
  simp only [aidx, aseg, Array.getElem?_toList]
  cases ops[i]? with
  | none => rfl
  | some o =>
   simp only
   cases aop X.E X.Γ ops.toList o σ with
   | none => rfl
   | some σ' => exact aseg_aidx k (i + 1) σ'
theorem Inv.und {S : Nat → Nat → Prop} {β : Blocks} {σ : St} {a : Act} {w : World} (hI : Inv S β σ a w) (t : Nat) : Inv S β (σ.und t) a w := by
 refine ⟨by simp [St.und, hI.size], fun k v d k1 k2 => ?_, hI.heap, hI.defers⟩
 simp only [St.und, List.getElem?_set] at k2
 split at k2
 ·split at k2
  ·cases k2; exact .undef v
  ·cases k2
 ·exact hI.tmps k v d k1 k2
theorem und_und (σ : St) (t : Nat) : (σ.und t).und t = σ.und t := by simp [St.und]
theorem und_comm (σ : St) {t u : Nat} (h : t ≠ u) : (σ.und t).und u = (σ.und u).und t := by
 unfold St.und
 congr 1
 exact List.set_comm _ _ h
theorem two_und (σ : St) {t0 t1 : Nat} (h : t0 ≠ t1) (c0 c1 : List D) : twoSt ((σ.und t0).und t1) t0 t1 c0 c1 = twoSt σ t0 t1 c0 c1 := by
 unfold twoSt St.und
 congr 1
 refine List.ext_getElem? fun k => ?_
 simp only [List.getElem?_set, List.length_set]
 by_cases h1 : t1 = k
 ·simp [h1]
 ·by_cases h0 : t0 = k
  ·simp [h1, h0]
  ·simp [h1, h0]
theorem ev_und (σ : St) {t x : Nat} (h : x ≠ t) : (σ.und t).ev (.tmp x) = σ.ev (.tmp x) := by
 simp only [St.und, St.ev, List.getD, List.getElem?_set_ne (Ne.symm h)]
variable {P : Program} {X : Cx} {c : Code} {σ : St} {Q : Post}
theorem Ht.regionTwo (H : Hx DR P X) (m e0 e1 t0 t1 x0 x1 k0 k1 : Nat) (i0 i1 : TI) (hc : (isDrawn c && plan2B X.E (opsOf c) m e0 e1 t0 t1 x0 x1 k0 k1) = true) (hi0 : X.E.T e0 = some i0) (hi1 : X.E.T e1 = some i1)
  (hz : (i0.zero.cells.length == i0.size && (i1.zero.cells.length == i1.size && (decide (i0.size ≤ maxLen) && (decide (i1.size ≤ maxLen) && (decide (t0 < σ.tmps.length) && decide (t1 < σ.tmps.length)))))) = true) (v0 v1 : D)
  (h1 : OpsU X (opl c) m 0 σ fun σ1 => (σ1.ev (.tmp x0) = v0 ∧ σ1.ev (.tmp x1) = v1) ∧ (v0.solid && v0.cells.length == i0.size && (v1.solid && v1.cells.length == i1.size)) = true ∧ Q .normal (twoSt σ1 t0 t1 v0.cells v1.cells)) : Ht DR P c σ Q := by
 cases c <;> simp only [isDrawn, Bool.false_and] at hc <;> first | (cases hc; done) | skip
 rename_i id ops draw
 rw [Bool.and_eq_true] at hc
 obtain ⟨rfl, hc⟩ := hc
 simp only [opsOf] at hc
 have hP := plan2_of hc
 simp only [Bool.and_eq_true, beq_iff_eq, decide_eq_true_eq] at hz
 obtain ⟨z0, z1, m0, m1, l0, l1⟩ := hz
 obtain ⟨σ1, h2, ⟨ev0, ev1⟩, hsol, hQ⟩ := h1
 simp only [Bool.and_eq_true, beq_iff_eq] at hsol
 obtain ⟨⟨s0, n0⟩, s1, n1⟩ := hsol
 obtain ⟨d1, d2, d3, d4, d5⟩ := hP.ne
 simp only [opl, Nat.sub_zero] at h2
 intro S β a w hI
 have hI' : Inv S β ((σ.und t0).und t1) a w.drew := Inv.und (Inv.und ⟨hI.size, fun i v d g1 g2 => (hI.tmps i v d g1 g2).mono (w := w) (w' := w.drew) (fun _ _ h => ⟨h, rfl⟩) (fun _ _ h => h), hI.heap.drew, hI.defers⟩ t0) t1
 have hidx : aidx X.E X.Γ ops (List.range m) σ = some σ1 := by
  rw [List.range_eq_range', aseg_aidx]
  exact h2
 have hu0 := aidx_und (t := t0) _ σ σ1 (fun i hi => by
  obtain ⟨y, hy, q1, q2, q3, q4, _⟩ := hP.free i (List.mem_range.1 hi)
  exact ⟨y, hy, q1, q3⟩) hidx
 have hu1 := aidx_und (t := t1) _ _ _ (fun i hi => by
  obtain ⟨y, hy, q1, q2, q3, q4, _⟩ := hP.free i (List.mem_range.1 hi)
  exact ⟨y, hy, q2, q4⟩) hu0
 refine wp_region_any H.mixed (two_sound (S0 := S) (β0 := β) (w0 := w.drew) H.types H.calls hP hi0 hi1 z0 z1 m0 m1 (v0 := v0) (v1 := v1) ⟨s0, n0⟩ ⟨s1, n1⟩ (L := σ.tmps.length) l0 l1 (σ1 := (σ1.und t0).und t1)
  (by rw [ev_und _ d3, ev_und _ d2]; exact ev0) (by rw [ev_und _ d5, ev_und _ d4]; exact ev1) (fun S' β' a' w' hI'' hE' => ⟨.normal, _, hQ, rfl, S', β', by rw [← two_und _ d1]; exact hI'', (Ext.drew S β w).trans hE'⟩)
  ops.size (List.range m) _ none none false false ?_ ?_ hI' (by simp [St.und]) (by rw [und_comm _ d1.symm, und_und, und_comm _ d1]) (und_und _ _) hu1 (fun b hb => by cases hb) (fun b hb => by cases hb) (fun b b' hb => by cases hb) (Ext.refl _ _ _))
 ·have := hP.size
  rw [List.length_range]
  show m + 4 = ops.size
  exact this
 ·have hsz := hP.size
  refine ⟨by simp, List.pairwise_lt_range, fun i => ?_, by simp [Array.getD, show m < ops.size by omega], by simp [Array.getD, show m + 1 < ops.size by omega], by simp [Array.getD, show m + 2 < ops.size by omega], by simp [Array.getD, show m + 3 < ops.size by omega], fun i o e hi hl => ?_⟩
  ·rw [List.mem_range]
   constructor
   ·intro h; exact ⟨h, by simp [Array.getD, show i < ops.size by omega]⟩
   ·exact fun h => h.1
  ·simp [Array.getD, hi] at hl
end Go.Abs
