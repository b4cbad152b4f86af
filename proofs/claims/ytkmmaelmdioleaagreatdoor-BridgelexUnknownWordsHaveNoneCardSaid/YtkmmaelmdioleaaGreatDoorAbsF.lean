import Derived.Test.YtkmmaelmdioleaaGreatDoorAbsE
import Derived.Deep.LoopGhost
namespace Go.Abs
set_option linter.unusedVariables false
set_option linter.unusedSimpArgs false
set_option linter.unnecessarySimpa false
variable {DR : Prop}
structure Inv (S : Nat → Nat → Prop) (β : Blocks) (σ : St) (a : Act) (w : World) : Prop where
 size : a.tmps.size = σ.tmps.length
 tmps : ∀ (i : Nat) (v : Value) (d : D), a.tmps[i]? = some v → σ.tmps[i]? = some d → RelD S β w v d
 heap : HInv S β w σ.heap
 defers : a.defers = []
theorem Inv.get {S : Nat → Nat → Prop} {β : Blocks} {σ : St} {a : Act} {w : World} (h : Inv S β σ a w) {t : Nat} {d : D} (hd : σ.tmps[t]? = some d) : ∃ v, a.tmps[t]? = some v ∧ RelD S β w v d := by
 have hlt := lt_of_getElem? hd
 have hlt' : t < a.tmps.size := by rw [h.size]; exact hlt
 exact ⟨_, Array.getElem?_eq_getElem hlt', h.tmps t _ d (Array.getElem?_eq_getElem hlt') hd⟩
theorem Inv.ev {S : Nat → Nat → Prop} {β : Blocks} {σ : St} {a : Act} {w : World} (h : Inv S β σ a w) (x : Operand) : RelD S β w (a.eval x) (σ.ev x) := by
 cases x with
 | tmp t =>
  simp only [Act.eval, St.ev, List.getD]
  cases hd : σ.tmps[t]? with
  | none => exact .undef _
  | some d =>
   obtain ⟨v, hv, hr⟩ := h.get hd
   simp only [Array.getD_eq_getD_getElem?, hv, Option.getD_some]
   exact hr
 | const c =>
  simp only [Act.eval, St.ev]
  split
  ·rename_i x hx; exact .v _ _ (ofValue_rel hx)
  ·exact .undef _
 | global g =>
  simp only [Act.eval, St.ev]
  split
  ·rename_i cs hg
   have hgl := h.heap.gl.1 g cs hg
   refine .vptr g 0 cs (fun j => (w.cell? ⟨g, j, none⟩).getD (.bool false)) (fun j hj => ?_) (fun j x hx => ?_)
   ·obtain ⟨h1, v, h2, _⟩ := hgl j cs[j] (List.getElem?_eq_getElem hj)
    rw [Nat.zero_add]
    exact ⟨h1, by rw [h2]; rfl⟩
   ·obtain ⟨_, v, h2, h3⟩ := hgl j x hx
    rw [h2]
    exact h3
  ·exact .undef _
 | func f => exact .v _ _ (.fn f)
theorem Inv.put {S S' : Nat → Nat → Prop} {β β' : Blocks} {σ : St} {a : Act} {w w' : World} (h : Inv S β σ a w) (hE : Ext DR S β w S' β' w') {h' : List AObj} (hi : HInv S' β' w' h') {v : Value} {d : D} (hv : RelD S' β' w' v d) (dst : Option Tmp) :
  Inv S' β' (σ.put dst d h') (a.put dst v) w' := by
 have hmono : ∀ {v : Value} {d : D}, RelD S β w v d → RelD S' β' w' v d := fun hr => hr.mono hE.keeps hE.pre
 cases dst with
 | none => exact ⟨h.size, fun i v d h1 h2 => hmono (h.tmps i v d h1 h2), hi, h.defers⟩
 | some t =>
  refine ⟨by simp [Act.put, St.put, h.size], fun i u x h1 h2 => ?_, hi, h.defers⟩
  simp only [Act.put, Array.getElem?_setIfInBounds] at h1
  simp only [St.put, List.getElem?_set] at h2
  by_cases ht : t = i
  ·subst ht
   rw [if_pos rfl] at h1 h2
   split at h1
   ·split at h2
    ·cases h1; cases h2; exact hv
    ·cases h2
   ·cases h1
  ·rw [if_neg ht] at h1 h2
   exact hmono (h.tmps i u x h1 h2)
theorem wanted_of {S : Nat → Nat → Prop} {β : Blocks} {σ : St} {a : Act} {w : World} (h : Inv S β σ a w) {ops : Array Oper} {o : Oper} {b : Bool} (hg : aguard ops.toList σ o = some b) : Region.wanted o (yielded ops a.tmps) = b := by
 unfold aguard at hg
 unfold Region.wanted
 split at hg
 ·rename_i hn; cases hg; simp [hn]
 ·rename_i j want hn
  simp only [hn]
  split at hg
  ·cases hg
  ·rename_i p hp
   have hp' : ops[j]? = some p := by simpa using hp
   split at hg
   ·cases hg
   ·rename_i t ht
    unfold yielded
    simp only [hp', Option.bind_some, ht]
    split at hg
    ·rename_i b' hb
     cases hg
     obtain ⟨v, hv, hr⟩ := h.get hb
     cases hr.of_v
     rw [hv]
     cases b' <;> cases want <;> rfl
    ·rename_i hb
     cases hg
     obtain ⟨v, hv, hr⟩ := h.get hb
     have hv2 := hr.of_v
     rw [hv]
     cases hv2
     rfl
    ·cases hg
theorem aop_sound_put {P : Program} {E : Env} {Γ : Calling} (hT : ∀ t i, E.T t = some i → tiOf P t = some i) (hΓ : CSound DR P Γ) {ops : Array Oper} {i : Nat} {o : Oper} (ho : ops[i]? = some o) {S : Nat → Nat → Prop} {β : Blocks} {σ σ' : St} {a : Act} {w : World}
  (hI : Inv S β σ a w) (hs : aop E Γ ops.toList o σ = some σ') {K : Act → World → Prop} {Q : Exit → Act → World → Prop} (hK : ∀ S' β' v w', Inv S' β' σ' (a.put o.dst v) w' → Ext DR S β w S' β' w' → K (a.put o.dst v) w') : wpOp P ops Q i K a w := by
 unfold aop at hs
 split at hs
 ·rename_i d h' he
  cases hs
  unfold aeff at he
  unfold wpOp
  simp only [ho]
  split at he
  ·rename_i hg
   rw [if_pos (wanted_of hI hg)]
   exact .inl (ares_sound hT hΓ o (fun x => hI.ev x) hI.heap he (fun S' β' w' v e1 e2 e3 => hK S' β' _ w' (hI.put e1 e2 e3 o.dst) e1))
  ·rename_i hg
   rw [if_neg (by rw [wanted_of hI hg]; simp)]
   obtain ⟨rfl, rfl⟩ := Prod.mk.inj (Option.some.inj he)
   exact hK S β _ w (hI.put (Ext.refl (DR := DR) _ _ _) hI.heap (.v _ _ (.tuple _ _ rfl (fun i v x hv => by simp at hv))) o.dst) (Ext.refl _ _ _)
  ·cases he
 ·cases hs
theorem aop_sound {P : Program} {E : Env} {Γ : Calling} (hT : ∀ t i, E.T t = some i → tiOf P t = some i) (hΓ : CSound DR P Γ) {ops : Array Oper} {i : Nat} {o : Oper} (ho : ops[i]? = some o) {S : Nat → Nat → Prop} {β : Blocks} {σ σ' : St} {a : Act} {w : World}
  (hI : Inv S β σ a w) (hs : aop E Γ ops.toList o σ = some σ') {K : Act → World → Prop} {Q : Exit → Act → World → Prop} (hK : ∀ S' β' a' w', Inv S' β' σ' a' w' → Ext DR S β w S' β' w' → K a' w') : wpOp P ops Q i K a w :=
 aop_sound_put hT hΓ ho hI hs (fun S' β' v w' h1 h2 => hK S' β' _ w' h1 h2)
theorem ares_congr {E : Env} {Γ : Calling} {op : Op} {ρ ρ' : Operand → D} (h : ∀ x ∈ op.operands, ρ x = ρ' x) (hp : List AObj) : ares E Γ op ρ hp = ares E Γ op ρ' hp := by
 have parts : ∀ ps : Array (Nat × Operand), (∀ x ∈ ps.map (·.2), ρ x = ρ' x) → (ps.toList.map fun p => (p.1, (ρ p.2).unt)) = (ps.toList.map fun p => (p.1, (ρ' p.2).unt)) := fun ps hh =>
  List.map_congr_left fun p hm => by rw [hh p.2 (Array.mem_map.2 ⟨p, by simpa using hm, rfl⟩)]
 have parts2 : ∀ ps : Array (Nat × Operand), (∀ x ∈ ps.map (·.2), ρ x = ρ' x) → (ps.toList.map fun p => (ρ p.2).unt) = (ps.toList.map fun p => (ρ' p.2).unt) := fun ps hh =>
  List.map_congr_left fun p hm => by rw [hh p.2 (Array.mem_map.2 ⟨p, by simpa using hm, rfl⟩)]
 cases op <;> simp only [Op.operands] at h <;> simp only [ares]
 case build t ps => rw [parts ps fun x hx => h x (by simpa using hx)]
 case buildSlice t n ps => rw [parts2 ps fun x hx => h x (by simpa using hx)]
 case call c =>
  obtain ⟨callee, args, argTypes⟩ := c
  have hargs : argsD ρ args.toList = argsD ρ' args.toList := by
   unfold argsD
   exact List.map_congr_left fun x hx => h x (by simp [Call.operands]; right; simpa using hx)
  cases callee with
  | builtin b => simp only [hargs]
  | value f =>
   have hf : ρ f = ρ' f := h f (by simp [Call.operands])
   simp only [hargs, hf]
  | invoke r m =>
   have hf : ρ r = ρ' r := h r (by simp [Call.operands])
   simp only [hargs, hf]
 case makeFunc fn first captured =>
  cases fn with
  | func f =>
   have hc : argsD ρ captured.toList = argsD ρ' captured.toList := List.map_congr_left fun x hx => h x (by simp; right; simpa using hx)
   simp only [hc]
  | _ => rfl
 case slice t x lo hi mx =>
  have e0 : ρ x = ρ' x := h x (by simp)
  have e1 : lo.map ρ = lo.map ρ' := by cases lo <;> simp_all
  have e2 : hi.map ρ = hi.map ρ' := by cases hi <;> simp_all
  have e3 : mx.map ρ = mx.map ρ' := by cases mx <;> simp_all
  rw [e0, e1, e2, e3]
 all_goals first | rfl | (simp_all; done)
theorem ev_put {σ : St} {dst : Option Tmp} {d : D} {h : List AObj} {x : Operand} (hx : ∀ t, dst = some t → x ≠ .tmp t) : (σ.put dst d h).ev x = σ.ev x := by
 cases dst with
 | none => cases x <;> rfl
 | some t =>
  cases x with
  | tmp u =>
   have : t ≠ u := fun e => hx t rfl (e ▸ rfl)
   simp [St.ev, St.put, List.getD, List.getElem?_set_ne this]
  | _ => rfl
theorem aguard_put {ops : Array Oper} {σ : St} {o : Oper} {dst : Option Tmp} {d : D} {h : List AObj} (hx : ∀ t, dst = some t → t ∉ o.looksAt ops) : aguard ops.toList (σ.put dst d h) o = aguard ops.toList σ o := by
 cases dst with
 | none => rfl
 | some t =>
  unfold aguard
  cases hg : o.guard with
  | none => rfl
  | some jw =>
   obtain ⟨j, want⟩ := jw
   simp only
   cases hj : ops.toList[j]? with
   | none => rfl
   | some p =>
    simp only
    cases hp : p.dst with
    | none => rfl
    | some u =>
     have hne : t ≠ u := fun e => hx t rfl (by
      subst e
      have hj' : ops[j]? = some p := by simpa using hj
      simp [Oper.looksAt, hg, hj', hp])
     simp only [St.put, List.getElem?_set_ne hne]
theorem aeff_put {E : Env} {Γ : Calling} {ops : Array Oper} {o : Oper} {σ : St} {dst : Option Tmp} {d : D} (hx : ∀ t, dst = some t → t ∉ o.looksAt ops) :
  aeff E Γ ops.toList o (σ.put dst d σ.heap) = aeff E Γ ops.toList o σ := by
 unfold aeff
 rw [aguard_put hx]
 have : (σ.put dst d σ.heap).heap = σ.heap := by cases dst <;> rfl
 rw [this]
 rw [ares_congr (ρ := (σ.put dst d σ.heap).ev) (ρ' := σ.ev) fun x hm => ev_put fun t ht hxt => hx t ht (by
  subst hxt
  exact List.mem_append_left _ (List.mem_filterMap.2 ⟨.tmp t, by simpa using hm, rfl⟩))]
def St.with (σ : St) (h : List AObj) : St := ⟨σ.tmps, h⟩
theorem put_eq (σ : St) (dst : Option Tmp) (d : D) (h : List AObj) : σ.put dst d h = (σ.with h).put dst d h := by cases dst <;> rfl
theorem kind_p {E : Env} {Γ : Calling} {ops : List Oper} {o : Oper} (hk : okind E o = .p) (σ : St) (h : List AObj) :
  aeff E Γ ops o (σ.with h) = (aeff E Γ ops o σ).map fun x => (x.1, h) := by
 have hev : (σ.with h).ev = σ.ev := by funext x; cases x <;> rfl
 have hg : aguard ops (σ.with h) o = aguard ops σ o := rfl
 unfold aeff
 rw [hg]
 cases hgu : aguard ops σ o with
 | none => rfl
 | some b =>
  cases b with
  | false => rfl
  | true =>
   simp only [hev]
   show ares E Γ o.op σ.ev h = (ares E Γ o.op σ.ev σ.heap).map fun x => (x.1, h)
   obtain ⟨dst, op, type, pos, after, guard⟩ := o
   cases op <;> simp only [okind] at hk <;> try (cases hk; done)
   all_goals simp only [ares]
   case buildSlice t n ps =>
    split at hk
    ·cases hk
    ·rename_i hb
     simp only [if_neg hb]
     repeat' split
     all_goals first | rfl | (simp [Option.map_map, Function.comp_def]; done)
   case slice t x lo hi mx =>
    split at hk
    ·cases hk
    rename_i hb
    simp only [if_neg hb]
    split at hk
    ·cases hk
    ·rename_i hr
     simp only [if_neg hr]
     cases sliceD E.T [] t (σ.ev x).unt (lo.map σ.ev) (hi.map σ.ev) (mx.map σ.ev) <;> rfl
   case makeFunc fn first captured =>
    cases fn with
    | func f =>
     dsimp only
     split <;> rfl
    | _ => rfl
   case call c =>
    obtain ⟨callee, args, argTypes⟩ := c
    dsimp only at hk ⊢
    split at hk <;> try (cases hk; done)
    all_goals try (split at hk <;> cases hk; done)
    all_goals
     simp only [builtinD]
     repeat' split
     all_goals first | rfl | (simp [Option.map_map, Function.comp_def]; done) | (cases hk; done) | (simp_all; done)
   all_goals
    repeat' split
    all_goals first | rfl | (simp [Option.map_map, Function.comp_def]; done)
theorem kind_r_ares {E : Env} {Γ : Calling} {o : Oper} (hk : okind E o = .r) {σ : St} {d : D} {h h' : List AObj} (he : ares E Γ o.op σ.ev h = some (d, h')) : h' = h := by
 obtain ⟨dst, op, type, pos, after, guard⟩ := o
 cases op <;> simp only [okind] at hk <;> try (cases hk; done)
 all_goals simp only [ares] at he
 case call c =>
  obtain ⟨callee, args, argTypes⟩ := c
  cases callee with
  | builtin b =>
   cases b <;> first | (cases hk; done) | skip
   all_goals
    dsimp only at he
    unfold builtinD at he
    repeat' (split at he)
    all_goals first | (cases ‹Builtin.len = _›; done) | (obtain ⟨_, _, he⟩ := Option.map_eq_some_iff.1 he; exact (Prod.mk.inj he).2.symm) | (cases he; done)
  | invoke r m => cases hk
  | value f =>
   cases f with
   | func f =>
    simp only at hk
    split at hk
    ·rename_i hp
     simp only [St.ev, cloOf, dynBad_func, Bool.false_eq_true, if_false] at he
     unfold callD at he
     rw [if_pos hp] at he
     repeat' (split at he)
     all_goals first | (cases he; done) | (obtain ⟨_, rfl⟩ := Prod.mk.inj (Option.some.inj he); rfl)
    ·cases hk
   | _ =>
    simp only at hk
    split at hk
    ·rename_i hdy
     dsimp only at he
     split at he
     ·split at he
      ·cases he
      ·rename_i hb
       have hp := dynBad_pure hdy hb
       unfold callD at he
       rw [if_pos hp] at he
       repeat' (split at he)
       all_goals first | (cases he; done) | (obtain ⟨_, rfl⟩ := Prod.mk.inj (Option.some.inj he); rfl)
     ·cases he
    ·cases hk
 case buildSlice t n ps =>
  split at hk <;> cases hk
 case slice t x lo hi mx =>
  split at hk
  ·cases hk
  ·rename_i hb
   rw [if_neg hb] at he
   obtain ⟨_, _, he⟩ := Option.map_eq_some_iff.1 he
   obtain ⟨_, rfl⟩ := Prod.mk.inj he
   rfl
 all_goals
  repeat' (split at he)
  all_goals first
   | (cases he; done)
   | (obtain ⟨_, _, he⟩ := Option.map_eq_some_iff.1 he; obtain ⟨_, rfl⟩ := Prod.mk.inj he; rfl)
theorem kind_r {E : Env} {Γ : Calling} {ops : List Oper} {o : Oper} (hk : okind E o = .p ∨ okind E o = .r) {σ : St} {d : D} {h : List AObj} (he : aeff E Γ ops o σ = some (d, h)) : h = σ.heap := by
 rcases hk with hk | hk
 ·have := kind_p (Γ := Γ) (ops := ops) hk σ σ.heap
  have e : σ.with σ.heap = σ := rfl
  rw [e, he] at this
  simp at this
  exact this
 ·unfold aeff at he
  split at he
  ·exact kind_r_ares hk he
  ·obtain ⟨_, rfl⟩ := Prod.mk.inj (Option.some.inj he); rfl
  ·cases he
theorem put_put {σ : St} {x y : Option Tmp} {d e : D} {h g : List AObj} (hne : ∀ t, x = some t → y ≠ some t) : (σ.put x d h).put y e g = (σ.put y e h).put x d g := by
 cases x with
 | none => cases y <;> rfl
 | some t =>
  cases y with
  | none => rfl
  | some u =>
   have : t ≠ u := fun e => hne t rfl (by rw [e])
   simp [St.put, List.set_comm _ _ this]
theorem okind_load {E : Env} {x y : Oper} (h : appLoad E x y = true) : okind E y = .r := by
 unfold appLoad at h
 rw [Bool.and_eq_true] at h
 obtain ⟨_, h⟩ := h
 obtain ⟨dst, op, type, pos, after, guard⟩ := y
 dsimp only at h
 split at h
 ·rfl
 ·cases h
theorem append_mut {T : Nat → Option TI} {t : Nat} {h h' : List AObj} {s x d : D} (hd : appendD T false t h s x = some (d, h')) : ∀ (r : Nat) o, h'[r]? = some o → o.mut = true → h[r]? = some o := by
 have key : ∀ (h0 : List AObj) (o' : AObj), o'.mut = false → (∀ (r : Nat) o, h0[r]? = some o → o.mut = true → h[r]? = some o) → ∀ (r : Nat) o, (h0 ++ [o'])[r]? = some o → o.mut = true → h[r]? = some o := by
  intro h0 o' hm h1 r o hr ho
  rcases (getElem?_snoc _ _ _ _).1 hr with ⟨g, _⟩ | ⟨_, g⟩
  ·exact h1 r o g ho
  ·subst g; rw [hm] at ho; cases ho
 have keyd : ∀ (q : Nat) (r : Nat) o, (h.set q .dead)[r]? = some o → o.mut = true → h[r]? = some o := by
  intro q r o hr ho
  rw [List.getElem?_set] at hr
  split at hr
  ·split at hr
   ·cases hr; cases ho
   ·cases hr
  ·exact hr
 unfold appendD at hd
 repeat' (split at hd)
 all_goals first | (cases hd; done) | skip
 all_goals try contradiction
 all_goals first
  | (obtain ⟨_, rfl⟩ := Prod.mk.inj (Option.some.inj hd); exact key _ _ rfl (keyd _))
  | (obtain ⟨_, rfl⟩ := Prod.mk.inj (Option.some.inj hd); exact key _ _ rfl (fun _ _ g _ => g))
  | skip
theorem load_mut {i : TI} {h h' : List AObj} (hh : ∀ (r : Nat) o, h'[r]? = some o → o.mut = true → h[r]? = some o) {p d : D} (hl : loadD i h' p = some d) : loadD i h p = some d := by
 unfold loadD at hl ⊢
 split at hl
 ·split at hl
  ·rename_i cs hc
   rw [hh _ _ hc rfl]; exact hl
  ·rename_i k cs hc
   rw [hh _ _ hc rfl]; exact hl
  ·cases hl
 ·split at hl
  ·rename_i k es hc
   rw [hh _ _ hc rfl]; exact hl
  ·cases hl
 ·exact hl
 ·exact hl
 ·cases hl
theorem app_load {E : Env} {Γ : Calling} {ops : Array Oper} {x y : Oper} (hal : appLoad E x y = true) {σ : St} {dx dy : D} {hx hy : List AObj} (ex : aeff E Γ ops.toList x σ = some (dx, hx)) (ey : aeff E Γ ops.toList y (σ.with hx) = some (dy, hy)) :
  aeff E Γ ops.toList y σ = some (dy, σ.heap) := by
 have hmut : ∀ (r : Nat) o, hx[r]? = some o → o.mut = true → σ.heap[r]? = some o := by
  unfold aeff at ex
  split at ex
  ·obtain ⟨dst, op, type, pos, after, guard⟩ := x
   unfold appLoad at hal
   rw [Bool.and_eq_true] at hal
   obtain ⟨hr, hal⟩ := hal
   have hrow : E.rowM = false := by simpa using hr
   dsimp only at hal ex
   split at hal
   ·rename_i c t p
    split at hal
    ·rename_i hcal
     simp only [ares, hcal, hrow] at ex
     unfold builtinD at ex
     split at ex <;> try (cases ‹Builtin.append = _›; done)
     ·split at ex
      ·exact append_mut ex
      ·unfold appendStrD at ex
       split at ex <;> try (cases ex; done)
       split at ex <;> try (cases ex; done)
       exact append_mut ex
     ·cases ex
    ·cases hal
   ·cases hal
  ·obtain ⟨_, rfl⟩ := Prod.mk.inj (Option.some.inj ex)
   exact fun _ _ g _ => g
  ·cases ex
 have hk := okind_load hal
 have hev : (σ.with hx).ev = σ.ev := by funext z; cases z <;> rfl
 unfold aeff at ey ⊢
 have hg : aguard ops.toList (σ.with hx) y = aguard ops.toList σ y := rfl
 rw [hg] at ey
 split at ey
 ·rename_i hgu
  obtain ⟨dst, op, type, pos, after, guard⟩ := y
  unfold appLoad at hal
  rw [Bool.and_eq_true] at hal
  obtain ⟨_, hal⟩ := hal
  dsimp only at hal ey ⊢
  split at hal
  ·rename_i c t p
   simp only [ares, hev] at ey ⊢
   split at ey
   ·rename_i i hi
    obtain ⟨d0, g1, g2⟩ := Option.map_eq_some_iff.1 ey
    have hheap : (σ.with hx).heap = hx := rfl
    rw [hheap] at g1
    obtain ⟨rfl, _⟩ := Prod.mk.inj g2
    rw [load_mut hmut g1]; rfl
   ·cases ey
  ·cases hal
 ·obtain ⟨rfl, _⟩ := Prod.mk.inj (Option.some.inj ey)
  rfl
 ·cases ey
theorem append_keep {T : Nat → Option TI} {t : Nat} {h h' : List AObj} {s x d : D} (hd : appendD T false t h s x = some (d, h')) : ∀ (r : Nat) o, h[r]? = some o → o.mut = true → h'[r]? = some o := by
 have key : ∀ (o' : AObj) (r : Nat) o, h[r]? = some o → o.mut = true → (h ++ [o'])[r]? = some o := fun o' r o hr _ => by
  rw [List.getElem?_append_left (lt_of_getElem? hr)]; exact hr
 have keyd : ∀ (q k n : Nat) (o' : AObj), h[q]? = some (.tok k n) → ∀ (r : Nat) o, h[r]? = some o → o.mut = true → (h.set q .dead ++ [o'])[r]? = some o := fun q k n o' hq r o hr ho => by
  have hne : q ≠ r := by
   rintro rfl
   rw [hr] at hq
   cases hq
   cases ho
  rw [List.getElem?_append_left (by rw [List.length_set]; exact lt_of_getElem? hr), List.getElem?_set_ne hne]
  exact hr
 unfold appendD at hd
 repeat' (split at hd)
 all_goals first | (cases hd; done) | skip
 all_goals try contradiction
 all_goals first
  | (obtain ⟨_, rfl⟩ := Prod.mk.inj (Option.some.inj hd); exact keyd _ _ _ _ (by assumption))
  | (obtain ⟨_, rfl⟩ := Prod.mk.inj (Option.some.inj hd); exact key _)
  | skip
theorem load_app {E : Env} {Γ : Calling} {ops : Array Oper} {x y : Oper} (hal : loadApp E x y = true) {σ : St} {dx dy : D} {hx hy : List AObj} (ex : aeff E Γ ops.toList x σ = some (dx, hx)) (ey : aeff E Γ ops.toList y σ = some (dy, hy)) :
  aeff E Γ ops.toList x (σ.with hy) = some (dx, hy) := by
 have hmut : ∀ (r : Nat) o, σ.heap[r]? = some o → o.mut = true → hy[r]? = some o := by
  unfold aeff at ey
  split at ey
  ·obtain ⟨dst, op, type, pos, after, guard⟩ := y
   unfold loadApp at hal
   dsimp only at hal ey
   split at hal
   ·rename_i c
    rw [Bool.and_eq_true] at hal
    obtain ⟨hr, hal⟩ := hal
    have hrow : E.rowM = false := by simpa using hr
    split at hal
    ·rename_i hcal
     simp only [ares, hcal, hrow] at ey
     unfold builtinD at ey
     split at ey <;> try (cases ‹Builtin.append = _›; done)
     ·split at ey
      ·exact append_keep ey
      ·unfold appendStrD at ey
       split at ey <;> try (cases ey; done)
       split at ey <;> try (cases ey; done)
       exact append_keep ey
     ·cases ey
    ·cases hal
   ·simp only [ares] at ey
    repeat' (split at ey)
    all_goals first | (cases ey; done) | skip
    all_goals first
     | (obtain ⟨_, rfl⟩ := Prod.mk.inj (Option.some.inj ey); exact fun r o hr _ => by rw [List.getElem?_append_left (lt_of_getElem? hr)]; exact hr)
     | (obtain ⟨_, rfl⟩ := Prod.mk.inj (Option.some.inj ey); exact fun _ _ g _ => g)
   ·cases hal
  ·obtain ⟨_, rfl⟩ := Prod.mk.inj (Option.some.inj ey)
   exact fun _ _ g _ => g
  ·cases ey
 have hev : (σ.with hy).ev = σ.ev := by funext z; cases z <;> rfl
 unfold aeff at ex ⊢
 have hg : aguard ops.toList (σ.with hy) x = aguard ops.toList σ x := rfl
 rw [hg]
 split at ex
 ·rename_i hgu
  obtain ⟨dst, op, type, pos, after, guard⟩ := x
  unfold loadApp at hal
  dsimp only at hal ex ⊢
  have hload : ∃ t p, op = .load t p := by
   split at hal
   ·exact ⟨_, _, rfl⟩
   ·exact ⟨_, _, rfl⟩
   ·cases hal
  obtain ⟨t, p, rfl⟩ := hload
  simp only [ares, hev] at ex ⊢
  split at ex
  ·rename_i i hi
   obtain ⟨d0, g1, g2⟩ := Option.map_eq_some_iff.1 ex
   obtain ⟨rfl, _⟩ := Prod.mk.inj g2
   have hheap : (σ.with hy).heap = hy := rfl
   rw [hheap, load_mut hmut g1]; rfl
  ·cases ex
 ·obtain ⟨rfl, _⟩ := Prod.mk.inj (Option.some.inj ex)
  rfl
 ·cases ex
theorem okind_loadA {E : Env} {x y : Oper} (h : loadApp E x y = true) : okind E x = .r := by
 unfold loadApp at h
 obtain ⟨dst, op, type, pos, after, guard⟩ := x
 dsimp only at h
 split at h
 ·rfl
 ·rfl
 ·cases h
theorem aop_comm {E : Env} {Γ : Calling} {ops : Array Oper} {x y : Oper} (hc : commutes E ops x y = true) {σ σ1 σ2 : St} (h1 : aop E Γ ops.toList x σ = some σ1) (h2 : aop E Γ ops.toList y σ1 = some σ2) :
  ∃ σ3, aop E Γ ops.toList y σ = some σ3 ∧ aop E Γ ops.toList x σ3 = some σ2 := by
 unfold commutes at hc
 rw [Bool.and_eq_true] at hc
 obtain ⟨hap, hkk⟩ := hc
 obtain ⟨a1, a2, a3⟩ := Oper.apart_spec hap
 unfold aop at h1 h2 ⊢
 split at h1
 ·rename_i dx hx ex
  cases h1
  split at h2
  ·rename_i dy hy ey
   cases h2
   -- y ahead of x
   have ey' : aeff E Γ ops.toList y (σ.with hx) = some (dy, hy) := by
    have := aeff_put (E := E) (Γ := Γ) (σ := σ.with hx) (dst := x.dst) (d := dx) a1
    rw [← this]
    have e : (σ.with hx).put x.dst dx (σ.with hx).heap = σ.put x.dst dx hx := (put_eq σ x.dst dx hx).symm
    rw [e]; exact ey
   rw [Bool.or_eq_true] at hkk
   have key : ∃ hy0, aeff E Γ ops.toList y σ = some (dy, hy0) ∧ aeff E Γ ops.toList x (σ.put y.dst dy hy0) = some (dx, hy) := by
    have back : ∀ (hy0 : List AObj), aeff E Γ ops.toList x (σ.with hy0) = some (dx, hy) → aeff E Γ ops.toList x (σ.put y.dst dy hy0) = some (dx, hy) := by
     intro hy0 hh
     rw [put_eq σ y.dst dy hy0]
     have := aeff_put (E := E) (Γ := Γ) (σ := σ.with hy0) (dst := y.dst) (d := dy) a3
     have e : (σ.with hy0).heap = hy0 := rfl
     rw [e] at this
     rw [this]; exact hh
    rcases hkk with hkk | hal
    case inr =>
     rw [Bool.or_eq_true] at hal
     rcases hal with hal | hal
     ·exact ⟨_, app_load hal ex ey', back _ (by rw [kind_r (.inr (okind_load hal)) ey']; exact ex)⟩
     ·have hxh := kind_r (.inr (okind_loadA hal)) ex
      subst hxh
      exact ⟨_, ey', back _ (load_app hal ex ey')⟩
    cases hxk : okind E x with
    | p =>
     have hxh := kind_r (.inl hxk) ex
     subst hxh
     refine ⟨hy, ey', back hy ?_⟩
     rw [kind_p hxk, ex]; rfl
    | r =>
     have hxh := kind_r (.inr hxk) ex
     subst hxh
     cases hyk : okind E y with
     | p =>
      have := kind_r (.inl hyk) ey'
      subst this
      exact ⟨_, ey', back _ ex⟩
     | r =>
      have := kind_r (.inr hyk) ey'
      subst this
      exact ⟨_, ey', back _ ex⟩
     | w => rw [hxk, hyk] at hkk; cases hkk
    | w =>
     cases hyk : okind E y with
     | p =>
      rw [kind_p hyk] at ey'
      obtain ⟨⟨d0, h0⟩, e0, e1⟩ := Option.map_eq_some_iff.1 ey'
      obtain ⟨rfl, rfl⟩ := Prod.mk.inj e1
      have := kind_r (.inl hyk) e0
      subst this
      exact ⟨_, e0, back _ ex⟩
     | r => rw [hxk, hyk] at hkk; cases hkk
     | w => rw [hxk, hyk] at hkk; cases hkk
   obtain ⟨hy0, k1, k2⟩ := key
   refine ⟨_, by simp only [k1]; rfl, ?_⟩
   simp only [k2]
   exact congrArg some (by
    have e := put_put (σ := σ) (x := x.dst) (y := y.dst) (d := dx) (e := dy) (h := hx) (g := hy) a2
    rw [e]
    have : ∀ g g' : List AObj, (σ.put y.dst dy g).put x.dst dx hy = (σ.put y.dst dy g').put x.dst dx hy := by
     intro g g'
     cases x.dst <;> cases y.dst <;> rfl
    first | exact this _ _ | (rw [e]; exact this _ _))
  ·cases h2
 ·cases h1
def SwapJ (J : St → Prop) (E : Env) (Γ : Calling) (ops : Array Oper) (x y : Oper) : Prop := ∀ σ σ1 σ2, J σ → aop E Γ ops.toList x σ = some σ1 → aop E Γ ops.toList y σ1 = some σ2 → ∃ σ3, aop E Γ ops.toList y σ = some σ3 ∧ aop E Γ ops.toList x σ3 = some σ2
def aidx (E : Env) (Γ : Calling) (ops : Array Oper) : List Nat → St → Option St
 | [], σ => some σ
 | i :: r, σ => match ops[i]? with
  | some o => match aop E Γ ops.toList o σ with
   | some σ' => aidx E Γ ops r σ'
   | none => none
  | none => none
theorem aidx_take {E : Env} {Γ : Calling} {ops : Array Oper} {i : Nat} {oi : Oper} (hi : ops[i]? = some oi) {J : St → Prop} (hJ : ∀ (k : Nat) o σ σ', ops[k]? = some o → J σ → aop E Γ ops.toList o σ = some σ' → J σ') : ∀ (pre post : List Nat) (σ σ' : St), J σ → (∀ j ∈ pre, ∃ oj, ops[j]? = some oj ∧ SwapJ J E Γ ops oj oi) →
  aidx E Γ ops (pre ++ i :: post) σ = some σ' → ∃ σ1, aop E Γ ops.toList oi σ = some σ1 ∧ aidx E Γ ops (pre ++ post) σ1 = some σ'
 | [], post, σ, σ', _, _, h => by
  simp only [List.nil_append, aidx, hi] at h
  split at h
  ·rename_i σ1 h1; exact ⟨σ1, h1, by simpa using h⟩
  ·cases h
 | j :: pre, post, σ, σ', hσ, hc, h => by
  obtain ⟨oj, hj, hcomm⟩ := hc j List.mem_cons_self
  simp only [List.cons_append, aidx, hj] at h
  split at h
  ·rename_i σj h1
   obtain ⟨σji, h2, h3⟩ := aidx_take hi hJ pre post σj σ' (hJ j oj σ σj hj hσ h1) (fun k hk => hc k (List.mem_cons_of_mem _ hk)) h
   obtain ⟨σi, h4, h5⟩ := hcomm _ _ _ hσ h1 h2
   refine ⟨σi, h4, ?_⟩
   simp only [List.cons_append, aidx, hj, h5]
   exact h3
  ·cases h
inductive Reach (ops : Array Oper) : Nat → Nat → Prop where
 | edge (i : Nat) (o : Oper) (e : Edge) (h : ops[i]? = some o) (he : e ∈ o.after) (hb : Region.binds .any e = true) : Reach ops e.on i
 | step (i j : Nat) (o : Oper) (e : Edge) (h : ops[i]? = some o) (he : e ∈ o.after) (hb : Region.binds .any e = true) (hr : Reach ops j e.on) : Reach ops j i
theorem before_fold (ops : Array Oper) : ∀ (l : List Oper) (acc : Array Nat), (∀ (q : Nat) o, l[q]? = some o → ops[acc.size + q]? = some o) → (∀ i j, (acc.getD i 0).testBit j = true → Reach ops j i) →
  ∀ i j, ((l.foldl (fun acc o => acc.push (o.after.foldl (fun s e => if Region.binds .any e then s ||| 2 ^ e.on ||| acc.getD e.on 0 else s) 0)) acc).getD i 0).testBit j = true → Reach ops j i
 | [], acc, _, h, i, j, hb => h i j hb
 | o :: l, acc, hl, h, i, j, hb => by
  simp only [List.foldl_cons] at hb
  refine before_fold ops l _ (fun q o' hq => ?_) (fun i j hb => ?_) i j hb
  ·have := hl (q + 1) o' (by simpa using hq)
   simpa [Nat.add_assoc, Nat.add_comm 1 q] using this
  ·have ho : ops[acc.size]? = some o := by simpa using hl 0 o rfl
   by_cases hi : i < acc.size
   ·refine h i j ?_
    simpa [Array.getD, Array.getElem_push, hi, Nat.lt_succ_of_lt hi] using hb
   ·by_cases hi' : i = acc.size
    ·subst hi'
     have hval : (acc.push (o.after.foldl (fun s e => if Region.binds .any e then s ||| 2 ^ e.on ||| acc.getD e.on 0 else s) 0)).getD acc.size 0 = o.after.foldl (fun s e => if Region.binds .any e then s ||| 2 ^ e.on ||| acc.getD e.on 0 else s) 0 := by
      simp [Array.getD]
     rw [hval, ← Array.foldl_toList] at hb
     have : ∀ (es : List Edge) (s : Nat), (∀ e ∈ es, e ∈ o.after) → (s.testBit j = true → Reach ops j acc.size) → (es.foldl (fun s e => if Region.binds .any e then s ||| 2 ^ e.on ||| acc.getD e.on 0 else s) s).testBit j = true → Reach ops j acc.size := by
      intro es
      induction es with
      | nil => intro s _ hs hb; exact hs hb
      | cons e es ih =>
       intro s hm hs hb
       simp only [List.foldl_cons] at hb
       refine ih _ (fun e' he' => hm e' (List.mem_cons_of_mem _ he')) ?_ hb
       intro hb'
       split at hb'
       ·rename_i hbind
        rw [Nat.testBit_or, Nat.testBit_or, Bool.or_eq_true, Bool.or_eq_true] at hb'
        rcases hb' with (hb' | hb') | hb'
        ·exact hs hb'
        ·rw [Nat.testBit_two_pow] at hb'
         have : e.on = j := by simpa using hb'
         subst this
         exact .edge _ o e ho (hm e List.mem_cons_self) hbind
        ·exact .step _ j o e ho (hm e List.mem_cons_self) hbind (h _ _ hb')
       ·exact hs hb'
     exact this o.after.toList 0 (fun e he => by simpa using he) (fun hb => by simp at hb) hb
    ·have : ¬ i < acc.size + 1 := by omega
     simp [Array.getD, this] at hb
theorem before_reach (ops : Array Oper) {i j : Nat} (h : ((Region.before ops).getD i 0).testBit j = true) : Reach ops j i := by
 unfold Region.before at h
 rw [← Array.foldl_toList] at h
 exact before_fold ops ops.toList #[] (fun q o hq => by simpa using hq) (fun i j hb => by simp [Array.getD] at hb) i j h
theorem step_sound {P : Program} {E : Env} {Γ : Calling} (hT : ∀ t i, E.T t = some i → tiOf P t = some i) (hΓ : CSound DR P Γ) {ops : Array Oper} {Q : Exit → Act → World → Prop} : ∀ (l : List Nat) {S : Nat → Nat → Prop} {β : Blocks} {σ σ' : St} {a : Act} {w : World},
  Inv S β σ a w → aidx E Γ ops l σ = some σ' → (∀ S' β' a' w', Inv S' β' σ' a' w' → Ext DR S β w S' β' w' → Q .normal a' w') → wpOps P ops Q l a w
 | [], S, β, σ, σ', a, w, hI, hs, hQ => by
  simp only [aidx, Option.some.injEq] at hs
  subst hs
  exact hQ S β a w hI (Ext.refl _ _ _)
 | i :: r, S, β, σ, σ', a, w, hI, hs, hQ => by
  simp only [aidx] at hs
  split at hs
  ·rename_i o ho
   split at hs
   ·rename_i σ1 h1
    rw [wpOps_cons]
    exact aop_sound hT hΓ ho hI h1 (fun S1 β1 a1 w1 hI1 hE1 => step_sound hT hΓ r hI1 hs (fun S' β' a' w' hI' hE' => hQ S' β' a' w' hI' (hE1.trans hE')))
   ·cases hs
  ·cases hs
theorem aidx_range {E : Env} {Γ : Calling} {ops : Array Oper} : ∀ (l : List Oper) (k : Nat) (σ : St), (∀ (q : Nat) o, l[q]? = some o → ops[k + q]? = some o) → aidx E Γ ops (List.range' k l.length) σ = aops E Γ ops.toList l σ
 | [], k, σ, _ => rfl
 | o :: l, k, σ, h => by
  have h0 : ops[k]? = some o := by simpa using h 0 o rfl
  simp only [List.length_cons, List.range'_succ, aidx, h0, aops]
  cases aop E Γ ops.toList o σ with
  | none => rfl
  | some σ1 => exact aidx_range l (k + 1) σ1 (fun q o' hq => by have := h (q + 1) o' (by simpa using hq); simpa [Nat.add_assoc, Nat.add_comm 1 q] using this)
structure Rem (ops : Array Oper) (listed : Array Bool) (rem : List Nat) : Prop where
 size : listed.size = ops.size
 sorted : rem.Pairwise (· < ·)
 mem : ∀ i, i ∈ rem ↔ i < ops.size ∧ listed.getD i true = false
 closed : ∀ (i : Nat) o (e : Edge), i < ops.size → listed.getD i true = true → ops[i]? = some o → e ∈ o.after → Region.binds .any e = true → listed.getD e.on false = true
theorem ready_spec {ops : Array Oper} {listed : Array Bool} {i : Nat} (h : i ∈ Region.ready .any ops listed) : i < ops.size ∧ listed.getD i true = false ∧ ∃ o, ops[i]? = some o ∧ ∀ e ∈ o.after, Region.binds .any e = true → listed.getD e.on false = true := by
 unfold Region.ready at h
 rw [List.mem_filter, List.mem_range, Bool.and_eq_true] at h
 obtain ⟨h1, h2, h3⟩ := h
 refine ⟨h1, by simpa using h2, ?_⟩
 rw [Array.getElem?_eq_getElem h1] at h3 ⊢
 refine ⟨_, rfl, fun e he hb => ?_⟩
 simp only [Option.map_some, Option.getD_some, Array.all_eq_true_iff_forall_mem] at h3
 have := h3 e he
 rw [hb] at this
 simpa using this
theorem reach_listed {ops : Array Oper} {listed : Array Bool} {rem : List Nat} (hR : Rem ops listed rem) : ∀ {j i : Nat}, Reach ops j i → (∀ (o : Oper) (e : Edge), ops[i]? = some o → e ∈ o.after → Region.binds .any e = true → listed.getD e.on false = true) → listed.getD j false = true := by
 intro j i h
 induction h with
 | edge i o e ho he hb => exact fun hall => hall o e ho he hb
 | step i j o e ho he hb hr ih =>
  intro hall
  have hon := hall o e ho he hb
  refine ih (fun o' e' ho' he' hb' => ?_)
  have hlt : e.on < ops.size := (Array.getElem?_eq_some_iff.1 ho').1
  exact hR.closed e.on o' e' hlt (by simpa [Array.getD, hR.size, hlt] using hon) ho' he' hb'
theorem any_soundS {P : Program} {E : Env} {Γ : Calling} (hT : ∀ t i, E.T t = some i → tiOf P t = some i) (hΓ : CSound DR P Γ) {ops : Array Oper} {J : St → Prop} (hJ : ∀ (k : Nat) o σ σ', ops[k]? = some o → J σ → aop E Γ ops.toList o σ = some σ' → J σ') (hf1 : (ops.toList.zipIdx.all (fun x => x.1.after.all fun e => !Region.binds .any e || decide (e.on < x.2))) = true)
  (hf2 : ∀ i, i < ops.size → ∀ j, j < i → ((Region.before ops).getD i 0).testBit j = true ∨ ∃ x y, ops[j]? = some x ∧ ops[i]? = some y ∧ SwapJ J E Γ ops x y) {Q : Exit → Act → World → Prop} : ∀ (fuel : Nat) (rem : List Nat) (listed : Array Bool) {S : Nat → Nat → Prop} {β : Blocks} {σ σ' : St} {a : Act} {w : World},
  J σ → rem.length = fuel → Rem ops listed rem → Inv S β σ a w → aidx E Γ ops rem σ = some σ' → (∀ S' β' a' w', Inv S' β' σ' a' w' → Ext DR S β w S' β' w' → Q .normal a' w') → wpAny P .any ops Q fuel listed a w := by
 intro fuel
 induction fuel with
 | zero =>
  intro rem listed S β σ σ' a w hσ hl hR hI hs hQ
  have hrem : rem = [] := List.eq_nil_of_length_eq_zero hl
  subst hrem
  simp only [aidx, Option.some.injEq] at hs
  subst hs
  refine ⟨?_, hQ S β a w hI (Ext.refl _ _ _)⟩
  rw [List.eq_nil_iff_forall_not_mem]
  intro i hi
  obtain ⟨h1, h2, _⟩ := ready_spec hi
  have := (hR.mem i).2 ⟨h1, h2⟩
  simp at this
 | succ fuel ih =>
  intro rem listed S β σ σ' a w hσ hl hR hI hs hQ
  refine ⟨fun hready => ?_, fun i hi => ?_⟩
  ·-- the first of those left could be taken
   exfalso
   cases rem with
   | nil => simp at hl
   | cons m r =>
    obtain ⟨m1, m2⟩ := (hR.mem m).1 List.mem_cons_self
    have : m ∈ Region.ready .any ops listed := by
     unfold Region.ready
     rw [List.mem_filter, List.mem_range, Bool.and_eq_true]
     refine ⟨m1, by simpa using m2, ?_⟩
     rw [Array.getElem?_eq_getElem m1]
     simp only [Option.map_some, Option.getD_some, Array.all_eq_true_iff_forall_mem]
     intro e he
     rw [Bool.or_eq_true]
     by_cases hb : Region.binds .any e = true
     ·right
      have hz := List.all_eq_true.1 hf1 (ops[m], m) (by
       rw [List.mem_zipIdx_iff_getElem?]
       simp [Array.getElem?_eq_getElem m1])
      have hz' := Array.all_eq_true_iff_forall_mem.1 hz e he
      rw [hb] at hz'
      have hlt : e.on < m := by simpa using hz'
      have hnot : e.on ∉ m :: r := by
       intro hm
       rcases List.mem_cons.1 hm with h | h
       ·omega
       ·have := (List.pairwise_cons.1 hR.sorted).1 _ h; omega
      have hon : e.on < ops.size := by omega
      have : ¬ listed.getD e.on true = false := fun h => hnot ((hR.mem e.on).2 ⟨hon, h⟩)
      simpa [Array.getD, hR.size, hon] using this
     ·left; simpa using hb
    rw [hready] at this
    simp at this
  ·obtain ⟨i1, i2, oi, hoi, hall⟩ := ready_spec hi
   have hmem : i ∈ rem := (hR.mem i).2 ⟨i1, i2⟩
   obtain ⟨pre, post, rfl⟩ := List.append_of_mem hmem
   have hsort := hR.sorted
   have hprelt : ∀ j ∈ pre, j < i := fun j hj => by
    rw [List.pairwise_append] at hsort
    exact hsort.2.2 j hj i List.mem_cons_self
   have hpost : ∀ j ∈ post, i < j := fun j hj => by
    rw [List.pairwise_append, List.pairwise_cons] at hsort
    exact hsort.2.1.1 j hj
   have hcomm : ∀ j ∈ pre, ∃ oj, ops[j]? = some oj ∧ SwapJ J E Γ ops oj oi := by
    intro j hj
    have hji := hprelt j hj
    obtain ⟨j1, j2⟩ := (hR.mem j).1 (List.mem_append_left _ hj)
    rcases hf2 i i1 j hji with h1 | ⟨x, y, hx, hy, hs⟩
    ·exfalso
     have := reach_listed hR (before_reach ops h1) (fun o e ho he hb => by rw [hoi] at ho; cases ho; exact hall e he hb)
     simp [Array.getD, hR.size, j1] at this j2
     rw [this] at j2; cases j2
    ·rw [hoi] at hy
     cases hy
     exact ⟨x, hx, hs⟩
   obtain ⟨σ1, h1, h2⟩ := aidx_take hoi hJ pre post σ σ' hσ hcomm hs
   refine aop_sound hT hΓ hoi hI h1 (fun S1 β1 a1 w1 hI1 hE1 => ?_)
   refine ih (pre ++ post) _ (hJ i oi σ σ1 hoi hσ h1) (by simp at hl ⊢; omega) ⟨by simp [hR.size], ?_, fun q => ?_, fun q o e hq hlq ho he hb => ?_⟩ hI1 h2 (fun S' β' a' w' hI' hE' => hQ S' β' a' w' hI' (hE1.trans hE'))
   ·rw [List.pairwise_append] at hsort ⊢
    exact ⟨hsort.1, (List.pairwise_cons.1 hsort.2.1).2, fun x hx y hy => hsort.2.2 x hx y (List.mem_cons_of_mem _ hy)⟩
   ·have hq := hR.mem q
    simp only [List.mem_append, List.mem_cons] at hq ⊢
    have hgetD : (listed.setIfInBounds i true).getD q true = if i = q then true else listed.getD q true := by
     simp only [Array.getD_eq_getD_getElem?, Array.getElem?_setIfInBounds]
     split
     ·split <;> rfl
     ·rfl
    rw [hgetD]
    by_cases hqi : i = q
    ·subst hqi
     simp only [if_true]
     constructor
     ·rintro (h | h)
      ·have := hprelt i h; omega
      ·have := hpost i h; omega
     ·rintro ⟨_, h⟩; cases h
    ·rw [if_neg hqi]
     constructor
     ·rintro (h | h)
      ·exact hq.1 (.inl h)
      ·exact hq.1 (.inr (.inr h))
     ·intro h
      rcases hq.2 h with h | h | h
      ·exact .inl h
      ·exact absurd h.symm hqi
      ·exact .inr h
   ·have hup : ∀ x, listed.getD x false = true → (listed.setIfInBounds i true).getD x false = true := by
     intro x hx
     simp only [Array.getD_eq_getD_getElem?, Array.getElem?_setIfInBounds] at hx ⊢
     split
     ·rename_i hix
      subst hix
      rw [if_pos (by rw [hR.size]; exact i1)]; rfl
     ·exact hx
    by_cases hqi : i = q
    ·subst hqi
     rw [hoi] at ho
     cases ho
     exact hup _ (hall e he hb)
    ·refine hup _ (hR.closed q o e hq ?_ ho he hb)
     simp only [Array.getD_eq_getD_getElem?, Array.getElem?_setIfInBounds, if_neg hqi] at hlq ⊢
     exact hlq
theorem any_sound {P : Program} {E : Env} {Γ : Calling} (hT : ∀ t i, E.T t = some i → tiOf P t = some i) (hΓ : CSound DR P Γ) {ops : Array Oper} (hf : orderFree E ops = true) {Q : Exit → Act → World → Prop} (fuel : Nat) (rem : List Nat) (listed : Array Bool) {S : Nat → Nat → Prop} {β : Blocks} {σ σ' : St} {a : Act} {w : World}
  (h1 : rem.length = fuel) (h2 : Rem ops listed rem) (h3 : Inv S β σ a w) (h4 : aidx E Γ ops rem σ = some σ') (h5 : ∀ S' β' a' w', Inv S' β' σ' a' w' → Ext DR S β w S' β' w' → Q .normal a' w') : wpAny P .any ops Q fuel listed a w := by
 unfold orderFree at hf
 rw [Bool.and_eq_true] at hf
 obtain ⟨hf1, hf2⟩ := hf
 refine any_soundS hT hΓ (J := fun _ => True) (fun _ _ _ _ _ _ _ => trivial) hf1 (fun i hi j hji => ?_) fuel rem listed trivial h1 h2 h3 h4 h5
 have h0 := List.all_eq_true.1 hf2 i (List.mem_range.2 hi)
 have h1 := List.all_eq_true.1 h0 j (List.mem_range.2 hji)
 rw [Bool.or_eq_true] at h1
 rcases h1 with h1 | h1
 ·exact .inl h1
 ·rw [Array.getElem?_eq_getElem (show j < ops.size by omega), Array.getElem?_eq_getElem hi] at h1
  exact .inr ⟨_, _, Array.getElem?_eq_getElem (show j < ops.size by omega), Array.getElem?_eq_getElem hi, fun σ σ1 σ2 _ g1 g2 => aop_comm h1 g1 g2⟩
theorem aop_comm_of {E : Env} {Γ : Calling} {ops : Array Oper} {x y : Oper} (hap : x.apart ops y = true) {σ σ1 σ2 : St}
  (hkey : ∀ dx hx dy hy, aeff E Γ ops.toList x σ = some (dx, hx) → aeff E Γ ops.toList y (σ.with hx) = some (dy, hy) → ∃ hy0, aeff E Γ ops.toList y σ = some (dy, hy0) ∧ aeff E Γ ops.toList x (σ.with hy0) = some (dx, hy))
  (h1 : aop E Γ ops.toList x σ = some σ1) (h2 : aop E Γ ops.toList y σ1 = some σ2) : ∃ σ3, aop E Γ ops.toList y σ = some σ3 ∧ aop E Γ ops.toList x σ3 = some σ2 := by
 obtain ⟨a1, a2, a3⟩ := Oper.apart_spec hap
 unfold aop at h1 h2 ⊢
 split at h1
 ·rename_i dx hx ex
  cases h1
  split at h2
  ·rename_i dy hy ey
   cases h2
   have ey' : aeff E Γ ops.toList y (σ.with hx) = some (dy, hy) := by
    have := aeff_put (E := E) (Γ := Γ) (σ := σ.with hx) (dst := x.dst) (d := dx) a1
    rw [← this]
    have e : (σ.with hx).put x.dst dx (σ.with hx).heap = σ.put x.dst dx hx := (put_eq σ x.dst dx hx).symm
    rw [e]; exact ey
   have back : ∀ (hy0 : List AObj), aeff E Γ ops.toList x (σ.with hy0) = some (dx, hy) → aeff E Γ ops.toList x (σ.put y.dst dy hy0) = some (dx, hy) := by
    intro hy0 hh
    rw [put_eq σ y.dst dy hy0]
    have := aeff_put (E := E) (Γ := Γ) (σ := σ.with hy0) (dst := y.dst) (d := dy) a3
    have e : (σ.with hy0).heap = hy0 := rfl
    rw [e] at this
    rw [this]; exact hh
   obtain ⟨hy0, k1, k2⟩ := hkey dx hx dy hy ex ey'
   have k2 := back hy0 k2
   refine ⟨_, by simp only [k1]; rfl, ?_⟩
   simp only [k2]
   exact congrArg some (by
    have e := put_put (σ := σ) (x := x.dst) (y := y.dst) (d := dx) (e := dy) (h := hx) (g := hy) a2
    rw [e]
    have : ∀ g g' : List AObj, (σ.put y.dst dy g).put x.dst dx hy = (σ.put y.dst dy g').put x.dst dx hy := by
     intro g g'
     cases x.dst <;> cases y.dst <;> rfl
    first | exact this _ _ | (rw [e]; exact this _ _))
  ·cases h2
 ·cases h1
theorem far_store {E : Env} {Γ : Calling} {ops : List Oper} {o : Oper} {t : Nat} {a : Tmp} {v : Operand} (ho : o.op = .store t (.tmp a) v) {σ : St} {r off : Nat} (ha : σ.tmps[a]? = some (.ptr r off)) {h h' : List AObj} {d : D} (he : aeff E Γ ops o (σ.with h) = some (d, h')) :
  ∀ q : Nat, q ≠ r → h'[q]? = h[q]? := by
 intro q hq
 have hev : (σ.with h).ev (.tmp a) = .ptr r off := by
  show (σ.with h).tmps.getD a .undef = _
  have : (σ.with h).tmps = σ.tmps := rfl
  rw [this]
  simp [List.getD, ha]
 unfold aeff at he
 split at he
 ·simp only [ares, ho, hev] at he
  split at he
  ·obtain ⟨h1, g1, g2⟩ := Option.map_eq_some_iff.1 he
   cases g2
   unfold storeD at g1
   split at g1
   ·simp only at g1
    split at g1
    ·obtain ⟨cs, _, rfl⟩ := Option.map_eq_some_iff.1 g1
     exact List.getElem?_set_ne (Ne.symm hq)
    ·obtain ⟨cs, _, rfl⟩ := Option.map_eq_some_iff.1 g1
     exact List.getElem?_set_ne (Ne.symm hq)
    ·cases g1
   ·cases g1
  ·cases he
 ·obtain ⟨_, rfl⟩ := Prod.mk.inj (Option.some.inj he); rfl
 ·cases he
theorem far_load {E : Env} {Γ : Calling} {ops : List Oper} {o : Oper} {t : Nat} {b : Tmp} (ho : o.op = .load t (.tmp b)) {σ : St} {r off : Nat} (hb : σ.tmps[b]? = some (.ptr r off)) {h h' g : List AObj} {d : D} (hg : h'[r]? = h[r]?) (he : aeff E Γ ops o (σ.with h) = some (d, g)) :
  g = h ∧ aeff E Γ ops o (σ.with h') = some (d, h') := by
 have hev : ∀ h : List AObj, (σ.with h).ev (.tmp b) = .ptr r off := by
  intro h
  show (σ.with h).tmps.getD b .undef = _
  have : (σ.with h).tmps = σ.tmps := rfl
  rw [this]
  simp [List.getD, hb]
 have hgd : aguard ops (σ.with h') o = aguard ops (σ.with h) o := rfl
 unfold aeff at he ⊢
 rw [hgd]
 split at he
 ·simp only [ares, ho, hev] at he ⊢
  split at he
  ·obtain ⟨d1, g1, g2⟩ := Option.map_eq_some_iff.1 he
   cases g2
   refine ⟨rfl, ?_⟩
   have h1 : (σ.with h').heap = h' := rfl
   have h2 : (σ.with h).heap = h := rfl
   rw [h2] at g1
   rw [h1]
   simp only [loadD, hg] at g1 ⊢
   rw [g1]; rfl
  ·cases he
 ·obtain ⟨rfl, rfl⟩ := Prod.mk.inj (Option.some.inj he); exact ⟨rfl, rfl⟩
 ·cases he
theorem far_swap {E : Env} {Γ : Calling} {ops : Array Oper} {σ0 : St} {x y : Oper} (hf : farAt ops σ0 x y = true) : SwapJ (fun σ => ∀ t, pinned ops t = true → σ.tmps[t]? = σ0.tmps[t]?) E Γ ops x y := by
 intro σ σ1 σ2 hJ h1 h2
 unfold farAt at hf
 rw [Bool.and_eq_true] at hf
 obtain ⟨hap, hf⟩ := hf
 refine aop_comm_of hap (fun dx hx dy hy ex ey => ?_) h1 h2
 have hw : σ.with σ.heap = σ := rfl
 split at hf
 ·rename_i a b hab
  rw [Bool.and_eq_true, Bool.and_eq_true] at hf
  obtain ⟨pa, pb, hf⟩ := hf
  split at hf
  ·rename_i r o r' o' ra rb
   rw [← hJ a pa] at ra
   rw [← hJ b pb] at rb
   have hne : r ≠ r' := by simpa using hf
   unfold farTmps at hab
   split at hab
   ·rename_i t a' v t' b' hx' hy'
    cases hab
    have e1 := far_store hx' ra (h := σ.heap) (by rw [hw]; exact ex)
    obtain ⟨g1, g2⟩ := far_load hy' rb (h := hx) (h' := σ.heap) (e1 r' (Ne.symm hne)).symm ey
    subst g1
    exact ⟨σ.heap, by rw [hw] at g2; exact g2, ex⟩
   ·rename_i t a' t' b' v hx' hy'
    cases hab
    obtain ⟨g1, _⟩ := far_load hx' ra (h := σ.heap) (h' := σ.heap) rfl (by rw [hw]; exact ex)
    subst g1
    have e1 := far_store hy' rb ey
    obtain ⟨_, g2⟩ := far_load hx' ra (h := σ.heap) (h' := hy) (e1 r hne) (by rw [hw]; exact ex)
    exact ⟨hy, ey, g2⟩
   ·cases hab
  ·cases hf
 ·cases hf
theorem pinned_keep {E : Env} {Γ : Calling} {ops : Array Oper} {σ0 : St} : ∀ (k : Nat) o σ σ', ops[k]? = some o → (∀ t, pinned ops t = true → σ.tmps[t]? = σ0.tmps[t]?) → aop E Γ ops.toList o σ = some σ' → ∀ t, pinned ops t = true → σ'.tmps[t]? = σ0.tmps[t]? := by
 intro k o σ σ' ho hJ h t ht
 rw [← hJ t ht]
 have hne : o.dst ≠ some t := by
  have := List.all_eq_true.1 ht o (List.mem_of_getElem? (i := k) (by simpa using ho))
  simpa using this
 unfold aop at h
 split at h
 ·cases h
  unfold St.put
  split
  ·rename_i u hu
   exact List.getElem?_set_ne (fun e => hne (by rw [hu, e]))
  ·rfl
 ·cases h
def LJ (E : Env) (ops : Array Oper) (σ0 τ : St) : Prop := (∀ t, pinned ops t = true → τ.tmps[t]? = σ0.tmps[t]?) ∧ (∀ r t, rootB ops σ0 r t = true → deadD τ.tmps[t]? = true ∨ ∃ off, τ.tmps[t]? = some (.ptr r off)) ∧ ∀ r t, awayB E ops σ0 r t = true → ∀ off, τ.tmps[t]? ≠ some (.ptr r off)
theorem binD_np {T : Nat → Option TI} {op : BinOp} {t : Nat} {x y d : D} (h : binD T op t x y = some d) (r off : Nat) : d ≠ .ptr r off := by
 unfold binD at h
 split at h
 ·split at h
  ·obtain ⟨z, _, rfl⟩ := Option.map_eq_some_iff.1 h; exact fun e => nomatch e
  ·obtain ⟨z, _, rfl⟩ := Option.map_eq_some_iff.1 h; exact fun e => nomatch e
  ·split at h
   ·obtain ⟨z, _, rfl⟩ := Option.map_eq_some_iff.1 h; exact fun e => nomatch e
   ·cases h
 ·obtain ⟨z, _, rfl⟩ := Option.map_eq_some_iff.1 h; exact fun e => nomatch e
 ·split at h
  ·obtain ⟨z, _, rfl⟩ := Option.map_eq_some_iff.1 h; exact fun e => nomatch e
  ·obtain ⟨z, _, rfl⟩ := Option.map_eq_some_iff.1 h; exact fun e => nomatch e
  ·cases h
theorem mkAgg_np (cs : List D) (r off : Nat) : mkAgg cs ≠ .ptr r off := by
 unfold mkAgg
 split <;> exact fun e => nomatch e
theorem loadAgg_np {i : TI} {h : List AObj} {p d : D} (hi : i.kind.isAgg = true) (hd : loadD i h p = some d) (r off : Nat) : d ≠ .ptr r off := by
 have hb : ∀ {cs : Option (List D)}, cs.bind (mkOf i.kind.isAgg) = some d → d ≠ .ptr r off := fun {cs} g => by
  obtain ⟨l, _, g⟩ := Option.bind_eq_some_iff.1 g
  rw [hi] at g
  have g : some (mkAgg l) = some d := g
  rw [← Option.some.inj g]
  exact mkAgg_np l r off
 unfold loadD at hd
 split at hd
 ·split at hd
  ·exact hb hd
  ·exact hb hd
  ·cases hd
 ·split at hd
  ·split at hd
   ·obtain ⟨z, _, rfl⟩ := Option.map_eq_some_iff.1 hd; exact fun e => nomatch e
   ·cases hd
  ·cases hd
 ·obtain ⟨z, _, rfl⟩ := Option.map_eq_some_iff.1 hd; exact fun e => nomatch e
 ·obtain ⟨z, _, rfl⟩ := Option.map_eq_some_iff.1 hd; exact fun e => nomatch e
 ·cases hd
theorem ev_get {σ : St} {t : Tmp} {d : D} (h : σ.tmps[t]? = some d) : σ.ev (.tmp t) = d := by simp [St.ev, List.getD, h]
theorem ev_ptr {σ : St} {t : Tmp} {r off : Nat} (h : σ.ev (.tmp t) = .ptr r off) : σ.tmps[t]? = some (.ptr r off) := by
 simp only [St.ev, List.getD] at h
 cases e : σ.tmps[t]? with
 | none => rw [e] at h; cases h
 | some d => rw [e] at h; exact congrArg some h
theorem put_get {σ : St} {dst : Option Tmp} {d : D} {h : List AObj} (t : Tmp) : (σ.put dst d h).tmps[t]? = σ.tmps[t]? ∨ (dst = some t ∧ (σ.put dst d h).tmps[t]? = some d) := by
 unfold St.put
 cases dst with
 | none => exact .inl rfl
 | some u =>
  by_cases e : u = t
  ·subst e
   rcases Nat.lt_or_ge u σ.tmps.length with hl | hl
   ·exact .inr ⟨rfl, List.getElem?_set_self hl⟩
   ·refine .inl ?_
    show (σ.tmps.set u d)[u]? = _
    rw [List.getElem?_eq_none (by simpa using hl), List.getElem?_eq_none hl]
  ·exact .inl (List.getElem?_set_ne e)
theorem lj_keep {E : Env} {Γ : Calling} {ops : Array Oper} {σ0 : St} : ∀ (k : Nat) o τ τ', ops[k]? = some o → LJ E ops σ0 τ → aop E Γ ops.toList o τ = some τ' → LJ E ops σ0 τ' := by
 intro k o τ τ' ho hJ h
 have hmem : o ∈ ops.toList := List.mem_of_getElem? (i := k) (by simpa using ho)
 refine ⟨pinned_keep k o τ τ' ho hJ.1 h, fun r t hb => ?_, fun r t hb off => ?_⟩
 ·unfold aop at h
  split at h
  case h_2 => cases h
  rename_i d h' he
  cases h
  rcases put_get (σ := τ) (dst := o.dst) (d := d) (h := h') t with g | ⟨g1, g2⟩
  ·rw [g]; exact hJ.2.1 r t hb
  ·rw [g2]
   have hb' := hb
   unfold rootB at hb'
   rw [Bool.and_eq_true] at hb'
   have h1 := List.all_eq_true.1 hb'.2 o hmem
   rw [Bool.or_eq_true] at h1
   rcases h1 with h1 | h1
   ·simp [g1] at h1
   ·rw [Bool.and_eq_true] at h1
    obtain ⟨hg, h1⟩ := h1
    have hg : o.guard = none := by simpa using hg
    split at h1
    case h_2 => cases h1
    rename_i ty s fi hop
    rw [Bool.and_eq_true] at h1
    obtain ⟨hp, h1⟩ := h1
    split at h1
    case h_2 => cases h1
    rename_i r' off' hs
    have hr : r' = r := by simpa using h1
    subst hr
    rw [← hJ.1 s hp] at hs
    have hev := ev_get hs
    unfold aeff at he
    have hag : aguard ops.toList τ o = some true := by simp [aguard, hg]
    rw [hag] at he
    simp only [ares, hop, hev, fieldAddrD] at he
    obtain ⟨d0, h3, h4⟩ := Option.map_eq_some_iff.1 he
    cases h4
    split at h3
    ·cases h3
    ·split at h3
     ·split at h3
      ·cases h3
      ·split at h3
       ·cases h3
       ·cases h3
       ·cases h3
        exact .inr ⟨_, rfl⟩
     ·cases h3
 ·unfold aop at h
  split at h
  case h_2 => cases h
  rename_i d h' he
  cases h
  rcases put_get (σ := τ) (dst := o.dst) (d := d) (h := h') t with g | ⟨g1, g2⟩
  ·rw [g]; exact hJ.2.2 r t hb off
  ·rw [g2]
   have hb' := hb
   unfold awayB at hb'
   rw [Bool.and_eq_true] at hb'
   have h1 := List.all_eq_true.1 hb'.2 o hmem
   rw [Bool.or_eq_true] at h1
   have key : d ≠ .ptr r off := by
    rcases h1 with h1 | h1
    ·simp [g1] at h1
    ·have mv : ∀ s : Tmp, (pinned ops s && (match σ0.tmps[s]? with
       | some (.ptr r' _) => r' != r
       | _ => true)) = true → τ.ev (.tmp s) ≠ .ptr r off := by
      intro s hs e
      rw [Bool.and_eq_true] at hs
      have e := ev_ptr e
      rw [hJ.1 s hs.1] at e
      rw [e] at hs
      simp at hs
     unfold aeff at he
     split at he
     ·split at h1
      ·rename_i a1 a2 a3 a4 a5 hop
       simp only [ares, hop] at he
       obtain ⟨d0, h3, h4⟩ := Option.map_eq_some_iff.1 he
       cases h4
       exact binD_np h3 r off
      ·rename_i t' p hop
       simp only [ares, hop] at he
       split at he
       ·rename_i i hi
        obtain ⟨d0, h3, h4⟩ := Option.map_eq_some_iff.1 he
        cases h4
        rw [hi] at h1
        exact loadAgg_np h1 h3 r off
       ·cases he
      ·rename_i s hop
       simp only [ares, hop] at he
       cases he
       exact mv s h1
      ·rename_i s hop
       simp only [ares, hop] at he
       cases he
       exact mv s h1
      ·cases h1
     ·cases he; exact fun e => nomatch e
     ·cases he
   exact fun e => key (Option.some.inj e)
theorem lendA_refs {h : List AObj} {r : Nat} : ∀ (ds : List D) (i : Nat) (refs : List (Option Nat)) (ds' : List D) (refs' : List (Option Nat)), lendA [] h i refs ds = some (ds', refs') → some r ∉ refs → (∀ d ∈ ds, ∀ off, d ≠ .ptr r off) → some r ∉ refs'
 | [], i, refs, ds', refs', hh, hr, hd => by simp only [lendA, Option.some.injEq, Prod.mk.injEq] at hh; rw [← hh.2]; exact hr
 | d :: l, i, refs, ds', refs', hh, hr, hd => by
  simp only [lendA] at hh
  split at hh
  case h_2 => cases hh
  rename_i d' rf ha
  split at hh
  case h_2 => cases hh
  rename_i ds2 rf2 hb
  cases hh
  refine lendA_refs l (i + 1) rf _ _ hb ?_ (fun x hx => hd x (List.mem_cons_of_mem _ hx))
  unfold lendArg at ha
  split at ha
  ·rename_i q off
   split at ha
   ·split at ha
    ·cases ha
     intro hm
     rcases List.mem_append.1 hm with hm | hm
     ·exact hr hm
     ·rw [List.mem_singleton] at hm
      cases hm
      exact hd _ List.mem_cons_self off rfl
    ·cases ha
   ·cases ha
  ·simp only [List.contains_nil, Bool.false_eq_true, if_false] at ha
   cases ha; exact hr
  ·simp only [List.contains_nil, Bool.false_eq_true, if_false] at ha
   cases ha; exact hr
  ·cases ha; exact hr
  ·cases ha
theorem lendBack_far {h1 : List AObj} {r : Nat} : ∀ (refs : List (Option Nat)) (j : Nat) (h h' : List AObj), lendBack h1 j refs h = some h' → some r ∉ refs → h'[r]? = h[r]?
 | [], j, h, h', hh, hr => by simp only [lendBack, Option.some.injEq] at hh; rw [hh]
 | none :: l, j, h, h', hh, hr => by
  simp only [lendBack] at hh
  exact lendBack_far l (j + 1) h h' hh fun hm => hr (List.mem_cons_of_mem _ hm)
 | some q :: l, j, h, h', hh, hr => by
  have hq : q ≠ r := fun e => hr (by rw [e]; exact List.mem_cons_self)
  have hl : some r ∉ l := fun hm => hr (List.mem_cons_of_mem _ hm)
  simp only [lendBack] at hh
  split at hh
  ·split at hh
   ·split at hh
    ·rw [lendBack_far l (j + 1) _ h' hh hl, List.getElem?_set_ne hq]
    ·cases hh
   ·cases hh
  ·rw [lendBack_far l (j + 1) _ h' hh hl, List.getElem?_set_ne hq]
  ·cases hh
theorem lc_swap {E : Env} {Γ : Calling} {ops : Array Oper} {σ0 : St} {x y : Oper} (hf : lcAt E ops σ0 x y = true) : SwapJ (LJ E ops σ0) E Γ ops x y := by
 intro τ τ1 τ2 hJ h1 h2
 unfold lcAt at hf
 rw [Bool.and_eq_true, Bool.and_eq_true] at hf
 obtain ⟨hap, hg, hf⟩ := hf
 have hg : x.guard = none := by simpa using hg
 refine aop_comm_of hap (fun dx hx dy hy ex ey => ?_) h1 h2
 have hw : τ.with τ.heap = τ := rfl
 split at hf
 case h_2 => cases hf
 rename_i t b c hox hoy
 split at hf
 case h_2 => cases hf
 rename_i f hcal
 rw [Bool.and_eq_true, Bool.and_eq_true, Bool.and_eq_true] at hf
 obtain ⟨hp, ho, hl, hr⟩ := hf
 split at hl
 case h_2 => cases hl
 rename_i L hL
 rw [Bool.and_eq_true] at hl
 have hlt : L.toks = [] := by simpa using hl.1
 have hlr : L.res = none := by simpa using hl.2
 split at hr
 case h_2 => cases hr
 rename_i r _
 rw [Bool.and_eq_true] at hr
 obtain ⟨hrb, hargs⟩ := hr
 have hpf : E.pureF f = false := by simpa using hp
 have hor : E.ownR f = none := by simpa using ho
 -- the load reads object r
 have hag : aguard ops.toList τ x = some true := by simp [aguard, hg]
 have hb : ∃ off, τ.tmps[b]? = some (.ptr r off) := by
  rcases hJ.2.1 r b hrb with hd | hd
  ·exfalso
   unfold aeff at ex
   rw [hag] at ex
   simp only [ares, hox] at ex
   split at ex
   ·obtain ⟨d0, g1, _⟩ := Option.map_eq_some_iff.1 ex
    unfold deadD at hd
    have hev : τ.ev (.tmp b) = .undef ∨ τ.ev (.tmp b) = .v (.tuple []) := by
     simp only [St.ev, List.getD]
     split at hd
     ·rename_i e; rw [e]; exact .inl rfl
     ·rename_i e; rw [e]; exact .inl rfl
     ·rename_i e; rw [e]; exact .inr rfl
     ·cases hd
    rcases hev with e | e <;> rw [e] at g1 <;> cases g1
   ·cases ex
  ·exact hd
 obtain ⟨off, hb⟩ := hb
 obtain ⟨g1, _⟩ := far_load hox hb (h := τ.heap) (h' := τ.heap) rfl (by rw [hw]; exact ex)
 subst g1
 rw [hw] at ey
 -- the call leaves object r as it is
 have hfar : hy[r]? = τ.heap[r]? := by
  unfold aeff at ey
  split at ey
  ·simp only [ares, hoy, hcal, cloOf, St.ev, dynBad_func, Bool.false_eq_true, if_false, List.nil_append, List.append_nil] at ey
   unfold callD at ey
   rw [hpf, hor, hL] at ey
   simp only [Bool.false_eq_true, if_false] at ey
   unfold lendD at ey
   rw [hlt] at ey
   split at ey
   ·cases ey
   ·rename_i ds' refs hA
    have hnr := lendA_refs _ _ _ _ _ hA (by simp) (fun d hd off' => by
     unfold argsD at hd
     obtain ⟨a, ha, rfl⟩ := List.mem_map.1 hd
     have h3 := List.all_eq_true.1 hargs a ha
     split at h3
     ·rename_i s
      intro e
      exact hJ.2.2 r s h3 off' (ev_ptr e)
     ·rename_i v
      intro e
      simp only [St.ev] at e
      split at e <;> cases e
     ·cases h3)
    split at ey
    ·cases ey
    ·split at ey
     ·cases ey
     ·rename_i h' hB
      split at ey
      ·unfold lendRes at ey
       rw [hlr] at ey
       obtain ⟨v, _, h5⟩ := Option.map_eq_some_iff.1 ey
       cases h5
       exact lendBack_far _ _ _ _ hB hnr
      ·cases ey
  ·cases ey; rfl
  ·cases ey
 obtain ⟨_, g2⟩ := far_load hox hb (h := τ.heap) (h' := hy) hfar (by rw [hw]; exact ex)
 exact ⟨hy, ey, g2⟩
theorem far_sound {P : Program} {E : Env} {Γ : Calling} (hT : ∀ t i, E.T t = some i → tiOf P t = some i) (hΓ : CSound DR P Γ) {ops : Array Oper} {σ σ' : St} (hf : farOk E ops σ = true) {Q : Exit → Act → World → Prop} (fuel : Nat) (rem : List Nat) (listed : Array Bool) {S : Nat → Nat → Prop} {β : Blocks} {a : Act} {w : World}
  (h1 : rem.length = fuel) (h2 : Rem ops listed rem) (h3 : Inv S β σ a w) (h4 : aidx E Γ ops rem σ = some σ') (h5 : ∀ S' β' a' w', Inv S' β' σ' a' w' → Ext DR S β w S' β' w' → Q .normal a' w') : wpAny P .any ops Q fuel listed a w := by
 unfold farOk at hf
 rw [Bool.and_eq_true] at hf
 obtain ⟨hf1, hf2⟩ := hf
 have hst : LJ E ops σ σ := ⟨(fun _ _ => rfl), (fun r t hb => by
  unfold rootB at hb
  rw [Bool.and_eq_true] at hb
  exact .inl hb.1), fun r t hb off e => by
  unfold awayB at hb
  rw [Bool.and_eq_true, e] at hb
  simp at hb⟩
 refine any_soundS hT hΓ (J := LJ E ops σ) lj_keep hf1 (fun i hi j hji => ?_) fuel rem listed hst h1 h2 h3 h4 h5
 have h0 := List.all_eq_true.1 hf2 i (List.mem_range.2 hi)
 have h1 := List.all_eq_true.1 h0 j (List.mem_range.2 hji)
 rw [Bool.or_eq_true] at h1
 rcases h1 with h1 | h1
 ·exact .inl h1
 ·rw [Array.getElem?_eq_getElem (show j < ops.size by omega), Array.getElem?_eq_getElem hi] at h1
  simp only [Bool.or_eq_true] at h1
  rcases h1 with h1 | h1 | h1
  ·exact .inr ⟨_, _, Array.getElem?_eq_getElem (show j < ops.size by omega), Array.getElem?_eq_getElem hi, fun σ σ1 σ2 _ g1 g2 => aop_comm h1 g1 g2⟩
  ·exact .inr ⟨_, _, Array.getElem?_eq_getElem (show j < ops.size by omega), Array.getElem?_eq_getElem hi, fun τ τ1 τ2 hJ g1 g2 => far_swap h1 τ τ1 τ2 hJ.1 g1 g2⟩
  ·exact .inr ⟨_, _, Array.getElem?_eq_getElem (show j < ops.size by omega), Array.getElem?_eq_getElem hi, lc_swap h1⟩
theorem rem_start (ops : Array Oper) : Rem ops (Array.replicate ops.size false) (List.range ops.size) := by
 refine ⟨by simp, ?_, fun i => ?_, fun i o e hi hl => ?_⟩
 ·rw [List.range_eq_range']; exact List.pairwise_lt_range'
 ·simp only [List.mem_range]
  constructor
  ·intro h; exact ⟨h, by simp [Array.getD, h]⟩
  ·exact fun h => h.1
 ·simp [Array.getD, hi] at hl
end Go.Abs
