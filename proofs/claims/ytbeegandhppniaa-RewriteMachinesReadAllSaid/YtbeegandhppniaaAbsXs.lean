import Derived.Test.YtbeegandhppniaaAbsHT
namespace Go.Abs
set_option linter.unusedVariables false
set_option linter.unusedSimpArgs false
set_option linter.unnecessarySimpa false
variable {DR : Prop}
theorem swap_of {E : Env} {Γ : Calling} {ops : Array Oper} {x y : Oper} (hap : x.apart ops y = true)
  (key : ∀ {σ : St} {dx dy : D} {hx hy : List AObj}, aeff E Γ ops.toList x σ = some (dx, hx) → aeff E Γ ops.toList y (σ.with hx) = some (dy, hy) → ∃ hy0, aeff E Γ ops.toList y σ = some (dy, hy0) ∧ aeff E Γ ops.toList x (σ.with hy0) = some (dx, hy)) : SwapOk E Γ ops x y := by
 intro σ σ1 σ2 _ h1 h2
 obtain ⟨a1, a2, a3⟩ := Oper.apart_spec hap
 unfold aop at h1 h2 ⊢
 split at h1
 ·rename_i dx hx ex
  cases h1
  split at h2
  ·rename_i dy hy ey
   cases h2
   have ey' : aeff E Γ ops.toList y (σ.with hx) = some (dy, hy) := by
    have := aeff_put (E := E) (Γ := Γ) (σ := σ.with hx) (dst := x.dst) (d := dx) a1
    rw [← this]
    have e : (σ.with hx).put x.dst dx (σ.with hx).heap = σ.put x.dst dx hx := (put_eq σ x.dst dx hx).symm
    rw [e]; exact ey
   obtain ⟨hy0, k1, k2'⟩ := key ex ey'
   have k2 : aeff E Γ ops.toList x (σ.put y.dst dy hy0) = some (dx, hy) := by
    rw [put_eq σ y.dst dy hy0]
    have := aeff_put (E := E) (Γ := Γ) (σ := σ.with hy0) (dst := y.dst) (d := dy) a3
    have e : (σ.with hy0).heap = hy0 := rfl
    rw [e] at this
    rw [this]; exact k2'
   refine ⟨_, by simp only [k1]; rfl, ?_⟩
   simp only [k2]
   exact congrArg some (by
    have e := put_put (σ := σ) (x := x.dst) (y := y.dst) (d := dx) (e := dy) (h := hx) (g := hy) a2
    rw [e]
    have : ∀ g g' : List AObj, (σ.put y.dst dy g).put x.dst dx hy = (σ.put y.dst dy g').put x.dst dx hy := by
     intro g g'
     cases x.dst <;> cases y.dst <;> rfl
    first | exact this _ _ | (rw [e]; exact this _ _))
  ·cases h2
 ·cases h1
def Lays (E : Env) (Γ : Calling) (f : FuncId) : Prop := ∀ ds h d h', callD E Γ f ds h = some (d, h') → (∀ (r : Nat) o, h[r]? = some o → o.mut = true → h'[r]? = some o) ∧ (∀ (r : Nat) o, h'[r]? = some o → o.mut = true → h[r]? = some o)
def isLoad (o : Oper) : Bool := match o.op with
 | .load _ _ => true
 | _ => false
def callOf (o : Oper) : Option FuncId := match o.op with
 | .call c => match c.callee with
  | .value (.func f) => some f
  | _ => none
 | _ => none
theorem lays_eff {E : Env} {Γ : Calling} {ops : Array Oper} {y : Oper} {f : FuncId} (hf : callOf y = some f) (hE : E.dynP = true) (hl : Lays E Γ f) {σ : St} {d : D} {h' : List AObj} (he : aeff E Γ ops.toList y σ = some (d, h')) :
  (∀ (r : Nat) o, σ.heap[r]? = some o → o.mut = true → h'[r]? = some o) ∧ (∀ (r : Nat) o, h'[r]? = some o → o.mut = true → σ.heap[r]? = some o) := by
 unfold aeff at he
 split at he
 ·obtain ⟨dst, op, type, pos, after, guard⟩ := y
  unfold callOf at hf
  dsimp only at hf he
  split at hf
  case h_2 => cases hf
  rename_i c
  split at hf
  case h_2 => cases hf
  rename_i f' hcal
  cases hf
  simp only [ares, hcal] at he
  split at he
  ·rename_i f2 a b hc
   have hc : some (f, ([] : List D), ([] : List D)) = some (f2, a, b) := hc
   cases hc
   split at he
   ·cases he
   ·exact hl _ _ _ _ he
  ·cases he
 ·obtain ⟨_, rfl⟩ := Prod.mk.inj (Option.some.inj he)
  exact ⟨fun _ _ g _ => g, fun _ _ g _ => g⟩
 ·cases he
theorem load_eff {E : Env} {Γ : Calling} {ops : Array Oper} {x : Oper} (hx : isLoad x = true) {σ : St} {d : D} {h h' g : List AObj} (he : aeff E Γ ops.toList x (σ.with h) = some (d, h')) (hm : ∀ (r : Nat) o, h[r]? = some o → o.mut = true → g[r]? = some o) :
  h' = h ∧ aeff E Γ ops.toList x (σ.with g) = some (d, g) := by
 unfold aeff at he ⊢
 have hg : aguard ops.toList (σ.with g) x = aguard ops.toList (σ.with h) x := rfl
 have hev : (σ.with g).ev = (σ.with h).ev := by funext z; cases z <;> rfl
 rw [hg]
 split at he
 ·obtain ⟨dst, op, type, pos, after, guard⟩ := x
  unfold isLoad at hx
  dsimp only at hx he ⊢
  split at hx
  case h_2 => cases hx
  rename_i t p
  simp only [ares, hev] at he ⊢
  split at he
  ·rename_i i hi
   obtain ⟨d0, g1, g2⟩ := Option.map_eq_some_iff.1 he
   obtain ⟨rfl, rfl⟩ := Prod.mk.inj g2
   refine ⟨rfl, ?_⟩
   have e1 : (σ.with h).heap = h := rfl
   have e2 : (σ.with g).heap = g := rfl
   rw [e1] at g1
   rw [e2, load_mut hm g1]; rfl
  ·cases he
 ·obtain ⟨rfl, rfl⟩ := Prod.mk.inj (Option.some.inj he)
  exact ⟨rfl, rfl⟩
 ·cases he
theorem swap_lc {E : Env} {Γ : Calling} {ops : Array Oper} {x y : Oper} {f : FuncId} (hap : x.apart ops y = true) (hx : isLoad x = true) (hf : callOf y = some f) (hE : E.dynP = true) (hl : Lays E Γ f) : SwapOk E Γ ops x y :=
 swap_of hap fun {σ dx dy hx' hy} ex ey => by
  have e0 : σ.with σ.heap = σ := rfl
  have ex : aeff E Γ ops.toList x (σ.with σ.heap) = some (dx, hx') := ex
  have e1 := (load_eff hx ex (g := σ.heap) fun _ _ g _ => g).1
  subst e1
  have ey : aeff E Γ ops.toList y σ = some (dy, hy) := ey
  exact ⟨hy, ey, (load_eff hx ex (lays_eff hf hE hl ey).1).2⟩
theorem swap_cl {E : Env} {Γ : Calling} {ops : Array Oper} {x y : Oper} {f : FuncId} (hap : x.apart ops y = true) (hx : isLoad y = true) (hf : callOf x = some f) (hE : E.dynP = true) (hl : Lays E Γ f) : SwapOk E Γ ops x y :=
 swap_of hap fun {σ dx dy hx' hy} ex ey => by
  have h1 := load_eff hx ey (lays_eff hf hE hl ex).2
  obtain ⟨rfl, h2⟩ := h1
  exact ⟨σ.heap, h2, ex⟩
def orderFreeXs (E : Env) (ops : Array Oper) (ps : List (Nat × Nat)) : Bool :=
 let b := Region.before ops
 ops.toList.zipIdx.all (fun x => x.1.after.all fun e => !Region.binds .any e || decide (e.on < x.2)) &&
 (List.range ops.size).all fun i => (List.range i).all fun j =>
  ((b.getD i 0).testBit j || (match ops[j]?, ops[i]? with
   | some x, some y => commutes E ops x y
   | _, _ => false)) || ps.contains (j, i)
theorem Ht.regionXs {P : Program} {X : Cx} {c : Code} {σ : St} {Q : Post} (H : Hx DR P X) (ps : List (Nat × Nat)) (hc : (isDrawn c && orderFreeXs X.E (opsOf c) ps) = true) (hsw : ∀ p q, (p, q) ∈ ps → ∀ x y, (opsOf c)[p]? = some x → (opsOf c)[q]? = some y → SwapOk X.E X.Γ (opsOf c) x y) (h : Ops X (opl c) 0 σ (Q .normal)) : Ht DR P c σ Q := by
 cases c <;> simp only [isDrawn, Bool.false_and] at hc <;> first | (cases hc; done) | skip
 rename_i id ops draw
 rw [Bool.and_eq_true] at hc
 obtain ⟨rfl, hc⟩ := hc
 simp only [opsOf] at hc hsw
 unfold orderFreeXs at hc
 rw [Bool.and_eq_true] at hc
 obtain ⟨hf1, hf2⟩ := hc
 obtain ⟨σ1, h1, h2⟩ := h
 simp only [opl, List.drop_zero] at h1
 intro S β a w hI
 have hI' : Inv S β σ a w.drew := ⟨hI.size, fun i v d g1 g2 => (hI.tmps i v d g1 g2).mono (w := w) (w' := w.drew) (fun _ _ h => ⟨h, rfl⟩) (fun _ _ h => h), hI.heap.drew, hI.defers⟩
 have hidx : aidx X.E X.Γ ops (List.range ops.size) σ = some σ1 := by
  rw [List.range_eq_range', ← Array.length_toList, aidx_range ops.toList 0 σ (fun q o hq => by simpa using hq)]
  exact h1
 refine wp_region_any H.mixed (any_soundS H.types H.calls (J := fun _ => True) (fun _ _ _ _ _ _ _ => trivial) hf1 (fun i hi j hji => ?_) _ _ _ trivial (by simp) (rem_start ops) hI' hidx (fun S' β' a' w' hI'' hE' => ⟨.normal, σ1, h2, rfl, S', β', hI'', (Ext.drew S β w).trans hE'⟩))
 have h0 := List.all_eq_true.1 hf2 i (List.mem_range.2 hi)
 have h3 := List.all_eq_true.1 h0 j (List.mem_range.2 hji)
 have gj := Array.getElem?_eq_getElem (show j < ops.size by omega)
 have gi := Array.getElem?_eq_getElem hi
 rw [Bool.or_eq_true, Bool.or_eq_true] at h3
 rcases h3 with (h3 | h3) | h3
 ·exact .inl h3
 ·rw [gj, gi] at h3
  exact .inr ⟨_, _, gj, gi, fun σ σ1 σ2 _ g1 g2 => aop_comm h3 g1 g2⟩
 ·exact .inr ⟨_, _, gj, gi, hsw j i (by simpa using h3) _ _ gj gi⟩
end Go.Abs
