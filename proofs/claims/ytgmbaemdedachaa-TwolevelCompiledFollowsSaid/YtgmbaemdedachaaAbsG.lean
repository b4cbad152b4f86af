import Derived.Test.YtgmbaemdedachaaAbsE
import Derived.Deep.LoopGhost
namespace Go.Abs
set_option linter.unusedVariables false
set_option linter.unusedSimpArgs false
set_option linter.unnecessarySimpa false
variable {DR : Prop}
structure Inv (S : Nat → Nat → Prop) (β : Blocks) (σ : St) (a : Act) (w : World) : Prop where
 size : a.tmps.size = σ.tmps.length
 tmps : ∀ (i : Nat) (v : Value) (d : D), a.tmps[i]? = some v → σ.tmps[i]? = some d → RelD S β w v d
 heap : HInv S β w σ.heap
 defers : a.defers = []
variable {S : Nat → Nat → Prop} {a : Act} {d : D} {t : Nat} {w : World} {β : Blocks} {σ : St}
theorem Inv.get (h : Inv S β σ a w) (hd : σ.tmps[t]? = some d) : ∃ v, a.tmps[t]? = some v ∧ RelD S β w v d := by
 have hlt := yE hd
 have hlt' : t < a.tmps.size := by rw [h.size]; exact hlt
 exact ⟨_, zD hlt', h.tmps t _ d (zD hlt') hd⟩
theorem Inv.ev (h : Inv S β σ a w) (x : Operand) : RelD S β w (a.eval x) (σ.ev x) := by
 cases x with
 | tmp t =>
  simp only [Act.eval, St.ev, List.getD]
  cases hd : σ.tmps[t]? with
  | none => exact .undef _
  | some d =>
   obtain ⟨v, hv, hr⟩ := h.get hd
   simp only [Array.getD_eq_getD_getElem?, hv, Option.getD_some]
   exact hr
 | const c =>
  simp only [Act.eval, St.ev]
  split
  ·rename_i x hx; exact .v _ _ (ofValue_rel hx)
  ·exact .undef _
 | global g =>
  simp only [Act.eval, St.ev]
  split
  ·rename_i cs hg
   have hgl := h.heap.gl.1 g cs hg
   refine .vptr g 0 cs (fun j => (w.cell? ⟨g, j, none⟩).getD (.bool false)) (fun j hj => ?_) (fun j x hx => ?_)
   ·obtain ⟨h1, v, h2, _⟩ := hgl j cs[j] (zA hj)
    rw [Nat.zero_add]
    exact ⟨h1, by rw [h2]; rfl⟩
   ·obtain ⟨_, v, h2, h3⟩ := hgl j x hx
    rw [h2]
    exact h3
  ·exact .undef _
 | func f => exact .v _ _ (.fn f)
variable {h' : List AObj}
theorem Inv.put {S' : Nat → Nat → Prop} {β' : Blocks} {w' : World} (h : Inv S β σ a w) (hE : Ext DR S β w S' β' w') (hi : HInv S' β' w' h') {v : Value} (hv : RelD S' β' w' v d) (dst : Option Tmp) :
  Inv S' β' (σ.put dst d h') (a.put dst v) w' := by
 have hmono : ∀ {v : Value} {d : D}, RelD S β w v d → RelD S' β' w' v d := fun hr => hr.mono hE.keeps hE.pre
 cases dst with
 | none => exact ⟨h.size, fun i v d h1 h2 => hmono (h.tmps i v d h1 h2), hi, h.defers⟩
 | some t =>
  refine ⟨by simp [Act.put, St.put, h.size], fun i u x h1 h2 => ?_, hi, h.defers⟩
  simp only [Act.put, Array.getElem?_setIfInBounds] at h1
  simp only [St.put, zR] at h2
  by_cases ht : t = i
  ·subst ht
   rw [if_pos rfl] at h1 h2
   split at h1
   ·split at h2
    ·cases h1; cases h2; exact hv
    ·cases h2
   ·cases h1
  ·rw [if_neg ht] at h1 h2
   exact hmono (h.tmps i u x h1 h2)
variable {o : Oper} {ops : Array Oper}
theorem wanted_of (h : Inv S β σ a w) {b : Bool} (hg : aguard ops.toList σ o = some b) : Region.wanted o (yielded ops a.tmps) = b := by
 unfold aguard at hg
 unfold Region.wanted
 split at hg
 ·rename_i hn; cases hg; simp [hn]
 ·rename_i j want hn
  simp only [hn]
  split at hg
  ·cases hg
  ·rename_i p hp
   have hp' : ops[j]? = some p := by simpa using hp
   split at hg
   ·cases hg
   ·rename_i t ht
    unfold yielded
    simp only [hp', Option.bind_some, ht]
    split at hg
    ·rename_i b' hb
     cases hg
     obtain ⟨v, hv, hr⟩ := h.get hb
     cases hr.of_v
     rw [hv]
     cases b' <;> cases want <;> rfl
    ·rename_i hb
     cases hg
     obtain ⟨v, hv, hr⟩ := h.get hb
     have hv2 := hr.of_v
     rw [hv]
     cases hv2
     rfl
    ·cases hg
variable {K : Act → World → Prop} {P : Program} {Q : Exit → Act → World → Prop} {i : Nat} {Γ : Calling} {σ' : St}
theorem aop_sound_put {E : Env} (hT : ∀ t i, E.T t = some i → tiOf P t = some i) (hΓ : CSound DR P Γ) (ho : ops[i]? = some o)
  (hI : Inv S β σ a w) (hs : aop E Γ ops.toList o σ = some σ') (hK : ∀ S' β' v w', Inv S' β' σ' (a.put o.dst v) w' → Ext DR S β w S' β' w' → K (a.put o.dst v) w') : wpOp P ops Q i K a w := by
 unfold aop at hs
 split at hs
 ·rename_i d h' he
  cases hs
  unfold aeff at he
  unfold wpOp
  simp only [ho]
  split at he
  ·rename_i hg
   rw [if_pos (wanted_of hI hg)]
   exact .inl (ares_sound hT hΓ o (fun x => hI.ev x) hI.heap he (fun S' β' w' v e1 e2 e3 => hK S' β' _ w' (hI.put e1 e2 e3 o.dst) e1))
  ·rename_i hg
   rw [if_neg (by rw [wanted_of hI hg]; simp)]
   obtain ⟨rfl, rfl⟩ := zM (zC he)
   exact hK S β _ w (hI.put (Ext.refl (DR := DR) _ _ _) hI.heap (.v _ _ (.tuple _ _ rfl (fun i v x hv => by simp at hv))) o.dst) (Ext.refl _ _ _)
  ·cases he
 ·cases hs
theorem aop_sound {E : Env} (hT : ∀ t i, E.T t = some i → tiOf P t = some i) (hΓ : CSound DR P Γ) (ho : ops[i]? = some o)
  (hI : Inv S β σ a w) (hs : aop E Γ ops.toList o σ = some σ') (hK : ∀ S' β' a' w', Inv S' β' σ' a' w' → Ext DR S β w S' β' w' → K a' w') : wpOp P ops Q i K a w :=
 aop_sound_put hT hΓ ho hI hs (fun S' β' v w' h1 h2 => hK S' β' _ w' h1 h2)
variable {op : Op} {ρ : Operand → D}
theorem ares_congr {E : Env} {ρ' : Operand → D} (h : ∀ x ∈ op.operands, ρ x = ρ' x) (hp : List AObj) : ares E Γ op ρ hp = ares E Γ op ρ' hp := by
 have parts : ∀ ps : Array (Nat × Operand), (∀ x ∈ ps.map (·.2), ρ x = ρ' x) → (ps.toList.map fun p => (p.1, (ρ p.2).unt)) = (ps.toList.map fun p => (p.1, (ρ' p.2).unt)) := fun ps hh =>
  List.map_congr_left fun p hm => by rw [hh p.2 (Array.mem_map.2 ⟨p, by simpa using hm, rfl⟩)]
 have parts2 : ∀ ps : Array (Nat × Operand), (∀ x ∈ ps.map (·.2), ρ x = ρ' x) → (ps.toList.map fun p => (ρ p.2).unt) = (ps.toList.map fun p => (ρ' p.2).unt) := fun ps hh =>
  List.map_congr_left fun p hm => by rw [hh p.2 (Array.mem_map.2 ⟨p, by simpa using hm, rfl⟩)]
 cases op <;> simp only [Op.operands] at h <;> simp only [ares]
 case build t ps => rw [parts ps fun x hx => h x (by simpa using hx)]
 case buildSlice t n ps => rw [parts2 ps fun x hx => h x (by simpa using hx)]
 case call c =>
  obtain ⟨callee, args, argTypes⟩ := c
  have hargs : argsD ρ args.toList = argsD ρ' args.toList := by
   unfold argsD
   exact List.map_congr_left fun x hx => h x (by simp [Call.operands]; right; simpa using hx)
  cases callee with
  | builtin b => simp only [hargs]
  | value f =>
   have hf : ρ f = ρ' f := h f (by simp [Call.operands])
   simp only [hargs, hf]
  | invoke r m =>
   have hf : ρ r = ρ' r := h r (by simp [Call.operands])
   simp only [hargs, hf]
 case makeFunc fn first captured =>
  cases fn with
  | func f =>
   have hc : argsD ρ captured.toList = argsD ρ' captured.toList := List.map_congr_left fun x hx => h x (by simp; right; simpa using hx)
   simp only [hc]
  | _ => rfl
 case slice t x lo hi mx =>
  have e0 : ρ x = ρ' x := h x (by simp)
  have e1 : lo.map ρ = lo.map ρ' := by cases lo <;> simp_all
  have e2 : hi.map ρ = hi.map ρ' := by cases hi <;> simp_all
  have e3 : mx.map ρ = mx.map ρ' := by cases mx <;> simp_all
  rw [e0, e1, e2, e3]
 all_goals first | rfl | (simp_all; done)
variable {dst : Option Tmp} {h : List AObj}
theorem ev_put {x : Operand} (hx : ∀ t, dst = some t → x ≠ .tmp t) : (σ.put dst d h).ev x = σ.ev x := by
 cases dst with
 | none => cases x <;> rfl
 | some t =>
  cases x with
  | tmp u =>
   have : t ≠ u := fun e => hx t rfl (e ▸ rfl)
   simp [St.ev, St.put, List.getD, zO this]
  | _ => rfl
theorem aguard_put (hx : ∀ t, dst = some t → t ∉ o.looksAt ops) : aguard ops.toList (σ.put dst d h) o = aguard ops.toList σ o := by
 cases dst with
 | none => rfl
 | some t =>
  unfold aguard
  cases hg : o.guard with
  | none => rfl
  | some jw =>
   obtain ⟨j, want⟩ := jw
   simp only
   cases hj : ops.toList[j]? with
   | none => rfl
   | some p =>
    simp only
    cases hp : p.dst with
    | none => rfl
    | some u =>
     have hne : t ≠ u := fun e => hx t rfl (by
      subst e
      have hj' : ops[j]? = some p := by simpa using hj
      simp [Oper.looksAt, hg, hj', hp])
     simp only [St.put, zO hne]
theorem aeff_put {E : Env} (hx : ∀ t, dst = some t → t ∉ o.looksAt ops) :
  aeff E Γ ops.toList o (σ.put dst d σ.heap) = aeff E Γ ops.toList o σ := by
 unfold aeff
 rw [aguard_put hx]
 have : (σ.put dst d σ.heap).heap = σ.heap := by cases dst <;> rfl
 rw [this]
 rw [ares_congr (ρ := (σ.put dst d σ.heap).ev) (ρ' := σ.ev) fun x hm => ev_put fun t ht hxt => hx t ht (by
  subst hxt
  exact List.mem_append_left _ (List.mem_filterMap.2 ⟨.tmp t, by simpa using hm, rfl⟩))]
def St.with (σ : St) (h : List AObj) : St := ⟨σ.tmps, h⟩
theorem put_eq (σ : St) (dst : Option Tmp) (d : D) (h : List AObj) : σ.put dst d h = (σ.with h).put dst d h := by cases dst <;> rfl
theorem kind_p {E : Env} {ops : List Oper} (hk : okind E o = .p) (σ : St) (h : List AObj) :
  aeff E Γ ops o (σ.with h) = (aeff E Γ ops o σ).map fun x => (x.1, h) := by
 have hev : (σ.with h).ev = σ.ev := by funext x; cases x <;> rfl
 have hg : aguard ops (σ.with h) o = aguard ops σ o := rfl
 unfold aeff
 rw [hg]
 cases hgu : aguard ops σ o with
 | none => rfl
 | some b =>
  cases b with
  | false => rfl
  | true =>
   simp only [hev]
   show ares E Γ o.op σ.ev h = (ares E Γ o.op σ.ev σ.heap).map fun x => (x.1, h)
   obtain ⟨dst, op, type, pos, after, guard⟩ := o
   cases op <;> simp only [okind] at hk <;> try (cases hk; done)
   all_goals simp only [ares]
   case buildSlice t n ps =>
    split at hk
    ·cases hk
    ·rename_i hb
     simp only [if_neg hb]
     repeat' split
     all_goals first | rfl | (simp [Option.map_map, Function.comp_def]; done)
   case slice t x lo hi mx =>
    split at hk
    ·cases hk
    rename_i hb
    simp only [if_neg hb]
    split at hk
    ·cases hk
    ·rename_i hr
     simp only [if_neg hr]
     cases sliceD E.T [] t (σ.ev x).unt (lo.map σ.ev) (hi.map σ.ev) (mx.map σ.ev) <;> rfl
   case makeFunc fn first captured =>
    cases fn with
    | func f =>
     dsimp only
     split <;> rfl
    | _ => rfl
   case call c =>
    obtain ⟨callee, args, argTypes⟩ := c
    dsimp only at hk ⊢
    split at hk <;> try (cases hk; done)
    all_goals try (split at hk <;> cases hk; done)
    all_goals
     simp only [builtinD]
     repeat' split
     all_goals first | rfl | (simp [Option.map_map, Function.comp_def]; done) | (cases hk; done) | (simp_all; done)
   all_goals
    repeat' split
    all_goals first | rfl | (simp [Option.map_map, Function.comp_def]; done)
theorem kind_r_ares {E : Env} (hk : okind E o = .r) (he : ares E Γ o.op σ.ev h = some (d, h')) : h' = h := by
 obtain ⟨dst, op, type, pos, after, guard⟩ := o
 cases op <;> simp only [okind] at hk <;> try (cases hk; done)
 all_goals simp only [ares] at he
 case call c =>
  obtain ⟨callee, args, argTypes⟩ := c
  cases callee with
  | builtin b =>
   cases b <;> first | (cases hk; done) | skip
   all_goals
    dsimp only at he
    unfold builtinD at he
    repeat' (split at he)
    all_goals first | (cases ‹Builtin.len = _›; done) | (obtain ⟨_, _, he⟩ := zB.1 he; exact (zM he).2.symm) | (cases he; done)
  | invoke r m => cases hk
  | value f =>
   cases f with
   | func f =>
    simp only at hk
    split at hk
    ·rename_i hp
     simp only [St.ev, cloOf, dynBad_func, Bool.false_eq_true, if_false] at he
     unfold callD at he
     rw [if_pos hp] at he
     repeat' (split at he)
     all_goals first | (cases he; done) | (obtain ⟨_, rfl⟩ := zM (zC he); rfl)
    ·cases hk
   | _ =>
    simp only at hk
    split at hk
    ·rename_i hdy
     dsimp only at he
     split at he
     ·split at he
      ·cases he
      ·rename_i hb
       have hp := dynBad_pure hdy hb
       unfold callD at he
       rw [if_pos hp] at he
       repeat' (split at he)
       all_goals first | (cases he; done) | (obtain ⟨_, rfl⟩ := zM (zC he); rfl)
     ·cases he
    ·cases hk
 case buildSlice t n ps =>
  split at hk <;> cases hk
 case slice t x lo hi mx =>
  split at hk
  ·cases hk
  ·rename_i hb
   rw [if_neg hb] at he
   obtain ⟨_, _, he⟩ := zB.1 he
   obtain ⟨_, rfl⟩ := zM he
   rfl
 all_goals
  repeat' (split at he)
  all_goals first
   | (cases he; done)
   | (obtain ⟨_, _, he⟩ := zB.1 he; obtain ⟨_, rfl⟩ := zM he; rfl)
theorem kind_r {E : Env} {ops : List Oper} (hk : okind E o = .p ∨ okind E o = .r) (he : aeff E Γ ops o σ = some (d, h)) : h = σ.heap := by
 rcases hk with hk | hk
 ·have := kind_p (Γ := Γ) (ops := ops) hk σ σ.heap
  have e : σ.with σ.heap = σ := rfl
  rw [e, he] at this
  simp at this
  exact this
 ·unfold aeff at he
  split at he
  ·exact kind_r_ares hk he
  ·obtain ⟨_, rfl⟩ := zM (zC he); rfl
  ·cases he
variable {g : List AObj}
theorem put_put {x y : Option Tmp} {e : D} (hne : ∀ t, x = some t → y ≠ some t) : (σ.put x d h).put y e g = (σ.put y e h).put x d g := by
 cases x with
 | none => cases y <;> rfl
 | some t =>
  cases y with
  | none => rfl
  | some u =>
   have : t ≠ u := fun e => hne t rfl (by rw [e])
   simp [St.put, List.set_comm _ _ this]
variable {x y : Oper}
theorem okind_load {E : Env} (h : appLoad E x y = true) : okind E y = .r := by
 unfold appLoad at h
 rw [Bool.and_eq_true] at h
 obtain ⟨_, h⟩ := h
 obtain ⟨dst, op, type, pos, after, guard⟩ := y
 dsimp only at h
 split at h
 ·rfl
 ·cases h
variable {s : D}
theorem append_mut {T : Nat → Option TI} {x : D} (hd : appendD T false t h s x = some (d, h')) : ∀ (r : Nat) o, h'[r]? = some o → o.mut = true → h[r]? = some o := by
 have key : ∀ (h0 : List AObj) (o' : AObj), o'.mut = false → (∀ (r : Nat) o, h0[r]? = some o → o.mut = true → h[r]? = some o) → ∀ (r : Nat) o, (h0 ++ [o'])[r]? = some o → o.mut = true → h[r]? = some o := by
  intro h0 o' hm h1 r o hr ho
  rcases (yF _ _ _ _).1 hr with ⟨g, _⟩ | ⟨_, g⟩
  ·exact h1 r o g ho
  ·subst g; rw [hm] at ho; cases ho
 have keyd : ∀ (q r : Nat) o, (h.set q .dead)[r]? = some o → o.mut = true → h[r]? = some o := by
  intro q r o hr ho
  rw [zR] at hr
  split at hr
  ·split at hr
   ·cases hr; cases ho
   ·cases hr
  ·exact hr
 unfold appendD at hd
 repeat' (split at hd)
 all_goals first | (cases hd; done) | skip
 all_goals try contradiction
 all_goals first
  | (obtain ⟨_, rfl⟩ := zM (zC hd); exact key _ _ rfl (keyd _))
  | (obtain ⟨_, rfl⟩ := zM (zC hd); exact key _ _ rfl (fun _ _ g _ => g))
  | skip
theorem load_mut {i : TI} (hh : ∀ (r : Nat) o, h'[r]? = some o → o.mut = true → h[r]? = some o) {p : D} (hl : loadD i h' p = some d) : loadD i h p = some d := by
 unfold loadD at hl ⊢
 split at hl
 ·split at hl
  ·rename_i cs hc
   rw [hh _ _ hc rfl]; exact hl
  ·rename_i k cs hc
   rw [hh _ _ hc rfl]; exact hl
  ·cases hl
 ·split at hl
  ·rename_i k es hc
   rw [hh _ _ hc rfl]; exact hl
  ·cases hl
 ·exact hl
 ·exact hl
 ·cases hl
variable {dx dy : D} {hy : List AObj}
theorem app_load {E : Env} (hal : appLoad E x y = true) {hx : List AObj} (ex : aeff E Γ ops.toList x σ = some (dx, hx)) (ey : aeff E Γ ops.toList y (σ.with hx) = some (dy, hy)) :
  aeff E Γ ops.toList y σ = some (dy, σ.heap) := by
 have hmut : ∀ (r : Nat) o, hx[r]? = some o → o.mut = true → σ.heap[r]? = some o := by
  unfold aeff at ex
  split at ex
  ·obtain ⟨dst, op, type, pos, after, guard⟩ := x
   unfold appLoad at hal
   rw [Bool.and_eq_true] at hal
   obtain ⟨hr, hal⟩ := hal
   have hrow : E.rowM = false := by simpa using hr
   dsimp only at hal ex
   split at hal
   ·rename_i c t p
    split at hal
    ·rename_i hcal
     simp only [ares, hcal, hrow] at ex
     unfold builtinD at ex
     split at ex <;> try (cases ‹Builtin.append = _›; done)
     ·split at ex
      ·exact append_mut ex
      ·unfold appendStrD at ex
       split at ex <;> try (cases ex; done)
       split at ex <;> try (cases ex; done)
       exact append_mut ex
     ·cases ex
    ·cases hal
   ·cases hal
  ·obtain ⟨_, rfl⟩ := zM (zC ex)
   exact fun _ _ g _ => g
  ·cases ex
 have hk := okind_load hal
 have hev : (σ.with hx).ev = σ.ev := by funext z; cases z <;> rfl
 unfold aeff at ey ⊢
 have hg : aguard ops.toList (σ.with hx) y = aguard ops.toList σ y := rfl
 rw [hg] at ey
 split at ey
 ·rename_i hgu
  obtain ⟨dst, op, type, pos, after, guard⟩ := y
  unfold appLoad at hal
  rw [Bool.and_eq_true] at hal
  obtain ⟨_, hal⟩ := hal
  dsimp only at hal ey ⊢
  split at hal
  ·rename_i c t p
   simp only [ares, hev] at ey ⊢
   split at ey
   ·rename_i i hi
    obtain ⟨d0, g1, g2⟩ := zB.1 ey
    have hheap : (σ.with hx).heap = hx := rfl
    rw [hheap] at g1
    obtain ⟨rfl, _⟩ := zM g2
    rw [load_mut hmut g1]; rfl
   ·cases ey
  ·cases hal
 ·obtain ⟨rfl, _⟩ := zM (zC ey)
  rfl
 ·cases ey
theorem append_keep {T : Nat → Option TI} {x : D} (hd : appendD T false t h s x = some (d, h')) : ∀ (r : Nat) o, h[r]? = some o → o.mut = true → h'[r]? = some o := by
 have key : ∀ (o' : AObj) (r : Nat) o, h[r]? = some o → o.mut = true → (h ++ [o'])[r]? = some o := fun o' r o hr _ => by
  rw [zJ (yE hr)]; exact hr
 have keyd : ∀ (q k n : Nat) (o' : AObj), h[q]? = some (.tok k n) → ∀ (r : Nat) o, h[r]? = some o → o.mut = true → (h.set q .dead ++ [o'])[r]? = some o := fun q k n o' hq r o hr ho => by
  have hne : q ≠ r := by
   rintro rfl
   rw [hr] at hq
   cases hq
   cases ho
  rw [zJ (by rw [zP]; exact yE hr), zO hne]
  exact hr
 unfold appendD at hd
 repeat' (split at hd)
 all_goals first | (cases hd; done) | skip
 all_goals try contradiction
 all_goals first
  | (obtain ⟨_, rfl⟩ := zM (zC hd); exact keyd _ _ _ _ (by assumption))
  | (obtain ⟨_, rfl⟩ := zM (zC hd); exact key _)
  | skip
theorem indexAddrH_mut {T : Nat → Option TI} (hh : ∀ (r : Nat) o, h[r]? = some o → o.mut = true → h'[r]? = some o) {x i : D} (hl : indexAddrH T h t x i = some d) : indexAddrH T h' t x i = some d := by
 unfold indexAddrH at hl ⊢
 split at hl
 ·rename_i r off len full
  cases hc : h[r]? with
  | none =>
   rw [hc] at hl
   repeat' (split at hl)
   all_goals first | (cases hl; done) | (rename_i e; cases e; done) | simp_all
  | some o =>
   by_cases hm : o.mut = true
   ·rw [hh r o hc hm]; rw [hc] at hl; exact hl
   ·rw [hc] at hl
    cases o <;> simp [AObj.mut] at hm
    all_goals
     repeat' (split at hl)
     all_goals first | (cases hl; done) | simp_all
 ·exact hl
theorem allM_mono {α β : Type} {f g : α → Option β} (h : ∀ x y, f x = some y → g x = some y) : ∀ {l : List α} {r : List β}, allM f l = some r → allM g l = some r
 | [], r, e => e
 | x :: l, r, e => by
  simp only [allM] at e ⊢
  split at e
  ·rename_i a b h1 h2
   rw [h x a h1, allM_mono h h2]; exact e
  ·cases e
theorem frz_mut (hh : ∀ (r : Nat) o, h[r]? = some o → o.mut = true → h'[r]? = some o) : ∀ (n : Nat) (d : D) (x : V), frz h n d = some x → frz h' n d = some x := by
 intro n
 induction n with
 | zero => intro d x e; simp [frz] at e
 | succ n ih =>
  intro d x e
  have ihM : ∀ {l : List D} {r : List V}, allM (frz h n) l = some r → allM (frz h' n) l = some r := fun e => allM_mono ih e
  cases d with
  | v y => simp only [frz] at e ⊢; exact e
  | tsl t es => simp only [frz] at e ⊢; exact e
  | vptr cs => simp only [frz] at e ⊢; exact e
  | osl r off len full =>
   simp only [frz] at e ⊢
   split at e
   ·rename_i k es hc
    rw [hh _ _ hc rfl]; exact e
   ·rename_i cs hc
    rw [hh _ _ hc rfl]
    dsimp only at e ⊢
    split at e
    ·rename_i hl
     rw [if_pos hl]
     split at e
     ·rename_i vs hv
      rw [ihM hv]; exact e
     ·cases e
    ·cases e
   ·rename_i k cs hc
    rw [hh _ _ hc rfl]
    dsimp only at e ⊢
    split at e
    ·rename_i hl
     rw [if_pos hl]
     split at e
     ·rename_i vs hv
      rw [ihM hv]; exact e
     ·cases e
    ·cases e
   ·cases e
  | func f a cs =>
   cases a with
   | cons _ _ => simp [frz] at e
   | nil =>
    simp only [frz] at e ⊢
    obtain ⟨y, g1, g2⟩ := zB.1 e
    rw [allM_mono (g := frzCap (frz h' n) h') (fun d y hd => ?_) g1]; exact congrArg some g2
    unfold frzCap at hd ⊢
    split at hd
    ·split at hd
     ·rename_i cs hc
      rw [hh _ _ hc rfl]
      obtain ⟨z, f1, f2⟩ := zB.1 hd
      dsimp only
      rw [ihM f1]; exact congrArg some f2
     ·cases hd
    ·exact hd
    ·cases hd
  | ptr r off =>
   cases off with
   | succ _ => simp [frz] at e
   | zero =>
    simp only [frz] at e ⊢
    split at e
    ·rename_i cs hc
     rw [hh _ _ hc rfl]
     obtain ⟨y, g1, g2⟩ := zB.1 e
     dsimp only
     rw [ihM g1]; exact congrArg some g2
    ·cases e
  | map r =>
   simp only [frz] at e ⊢
   split at e
   ·rename_i ks vs hc
    rw [hh _ _ hc rfl]
    obtain ⟨y, g1, g2⟩ := zB.1 e
    dsimp only
    rw [ihM g1]; exact congrArg some g2
   ·cases e
  | agg cs =>
   simp only [frz] at e ⊢
   obtain ⟨y, g1, g2⟩ := zB.1 e
   rw [ihM g1]; exact congrArg some g2
  | tuple cs =>
   simp only [frz] at e ⊢
   obtain ⟨y, g1, g2⟩ := zB.1 e
   rw [ihM g1]; exact congrArg some g2
  | undef => simp [frz] at e
  | eptr _ _ _ => simp [frz] at e
  | box _ _ => simp [frz] at e
theorem argP_mut (hh : ∀ (r : Nat) o, h[r]? = some o → o.mut = true → h'[r]? = some o) {x : D} (e : argP h d = some x) : argP h' d = some x := by
 unfold argP at e ⊢
 split at e
 ·exact e
 ·obtain ⟨y, g1, g2⟩ := zB.1 e
  rw [frz_mut hh _ _ _ g1]; exact congrArg some g2
theorem grow_mut {E : Env} (ho : (match op with
  | .alloc _ | .makeSlice _ _ _ | .buildSlice _ _ _ => true
  | _ => false) = true) (ey : ares E Γ op ρ h = some (dy, hy)) : ∀ (r : Nat) o, h[r]? = some o → o.mut = true → hy[r]? = some o := by
 cases op <;> try (cases ho; done)
 all_goals simp only [ares] at ey
 case makeSlice t l c =>
  unfold makeSliceD at ey
  repeat' (split at ey)
  all_goals first | (cases ey; done) | skip
  all_goals (obtain ⟨_, rfl⟩ := zM (zC ey); exact fun r o hr _ => by rw [zJ (yE hr)]; exact hr)
 all_goals
  repeat' (split at ey)
  all_goals first | (cases ey; done) | skip
  all_goals first
   | (obtain ⟨_, rfl⟩ := zM (zC ey); exact fun r o hr _ => by rw [zJ (yE hr)]; exact hr)
   | (obtain ⟨_, rfl⟩ := zM (zC ey); exact fun _ _ g _ => g)
theorem load_app {E : Env} (hal : loadApp E x y = true) {hx : List AObj} (ex : aeff E Γ ops.toList x σ = some (dx, hx)) (ey : aeff E Γ ops.toList y σ = some (dy, hy)) :
  aeff E Γ ops.toList x (σ.with hy) = some (dx, hy) := by
 have hmut : ∀ (r : Nat) o, σ.heap[r]? = some o → o.mut = true → hy[r]? = some o := by
  unfold aeff at ey
  split at ey
  ·obtain ⟨dst, op, type, pos, after, guard⟩ := y
   unfold loadApp at hal
   dsimp only at hal ey
   split at hal
   ·rename_i c
    rw [Bool.and_eq_true] at hal
    obtain ⟨hr, hal⟩ := hal
    have hrow : E.rowM = false := by simpa using hr
    split at hal
    ·rename_i hcal
     simp only [ares, hcal, hrow] at ey
     unfold builtinD at ey
     split at ey <;> try (cases ‹Builtin.append = _›; done)
     ·split at ey
      ·exact append_keep ey
      ·unfold appendStrD at ey
       split at ey <;> try (cases ey; done)
       split at ey <;> try (cases ey; done)
       exact append_keep ey
     ·cases ey
    ·cases hal
   all_goals first | (cases hal; done) | exact grow_mut rfl ey
  ·obtain ⟨_, rfl⟩ := zM (zC ey)
   exact fun _ _ g _ => g
  ·cases ey
 have hev : (σ.with hy).ev = σ.ev := by funext z; cases z <;> rfl
 unfold aeff at ex ⊢
 have hg : aguard ops.toList (σ.with hy) x = aguard ops.toList σ x := rfl
 rw [hg]
 split at ex
 ·rename_i hgu
  obtain ⟨dst, op, type, pos, after, guard⟩ := x
  have hheap : (σ.with hy).heap = hy := rfl
  have hcase : (∃ t p, op = .load t p) ∨ (∃ t p i, op = .indexAddr t p i) ∨ ∃ c f, op = .call c ∧ c.callee = .value (.func f) ∧ E.pureF f = true := by
   unfold loadApp at hal
   dsimp only at hal
   split at hal
   ·exact .inl ⟨_, _, rfl⟩
   ·exact .inl ⟨_, _, rfl⟩
   ·exact .inl ⟨_, _, rfl⟩
   ·exact .inl ⟨_, _, rfl⟩
   ·exact .inr (.inl ⟨_, _, _, rfl⟩)
   ·exact .inr (.inl ⟨_, _, _, rfl⟩)
   ·split at hal
    ·rename_i hcal
     exact .inr (.inr ⟨_, _, rfl, hcal, hal⟩)
    ·cases hal
   ·cases hal
  dsimp only at ex ⊢
  rcases hcase with ⟨t, p, rfl⟩ | ⟨t, p, i, rfl⟩ | ⟨c, f, rfl, hcal, hpf⟩
  ·simp only [ares, hev] at ex ⊢
   split at ex
   ·rename_i i hi
    obtain ⟨d0, g1, g2⟩ := zB.1 ex
    obtain ⟨rfl, _⟩ := zM g2
    rw [hheap, load_mut hmut g1]; rfl
   ·cases ex
  ·simp only [ares, hev] at ex ⊢
   obtain ⟨d0, g1, g2⟩ := zB.1 ex
   obtain ⟨rfl, _⟩ := zM g2
   rw [hheap, indexAddrH_mut hmut g1]; rfl
  ·simp only [ares, hev, hcal, St.ev, cloOf, dynBad_func, Bool.false_eq_true, if_false] at ex ⊢
   rw [hheap]
   unfold callD at ex ⊢
   rw [if_pos hpf] at ex ⊢
   split at ex
   ·cases ex
   ·rename_i vs hvs
    rw [allM_mono (fun d x e => argP_mut hmut e) hvs]
    dsimp only at ex ⊢
    cases hΓ : Γ f vs [] with
    | none => rw [hΓ] at ex; cases ex
    | some z =>
     obtain ⟨d0, h0⟩ := z
     rw [hΓ] at ex
     dsimp only at ex ⊢
     cases hr : frz h0 6 d0 with
     | none => rw [hr] at ex; cases ex
     | some r =>
      rw [hr] at ex
      dsimp only at ex ⊢
      split at ex
      ·rename_i hc
       rw [if_pos hc]
       obtain ⟨rfl, _⟩ := zM (zC ex)
       rfl
      ·cases ex
 ·obtain ⟨rfl, _⟩ := zM (zC ex)
  rfl
 ·cases ex
theorem okind_loadA {E : Env} (h : loadApp E x y = true) : okind E x = .r := by
 unfold loadApp at h
 obtain ⟨dst, op, type, pos, after, guard⟩ := x
 dsimp only at h
 split at h
 ·rfl
 ·rfl
 ·rfl
 ·rfl
 ·rfl
 ·rfl
 ·rename_i c _ _
  split at h
  ·rename_i hcal
   simp only [okind, hcal, h, if_true]
  ·cases h
 ·cases h
variable {σ1 σ2 : St}
theorem aop_comm {E : Env} (hc : commutes E ops x y = true) (h1 : aop E Γ ops.toList x σ = some σ1) (h2 : aop E Γ ops.toList y σ1 = some σ2) :
  ∃ σ3, aop E Γ ops.toList y σ = some σ3 ∧ aop E Γ ops.toList x σ3 = some σ2 := by
 unfold commutes at hc
 rw [Bool.and_eq_true] at hc
 obtain ⟨hap, hkk⟩ := hc
 obtain ⟨a1, a2, a3⟩ := Oper.apart_spec hap
 unfold aop at h1 h2 ⊢
 split at h1
 ·rename_i dx hx ex
  cases h1
  split at h2
  ·rename_i dy hy ey
   cases h2
   -- y ahead of x
   have ey' : aeff E Γ ops.toList y (σ.with hx) = some (dy, hy) := by
    have := aeff_put (E := E) (Γ := Γ) (σ := σ.with hx) (dst := x.dst) (d := dx) a1
    rw [← this]
    have e : (σ.with hx).put x.dst dx (σ.with hx).heap = σ.put x.dst dx hx := (put_eq σ x.dst dx hx).symm
    rw [e]; exact ey
   rw [Bool.or_eq_true] at hkk
   have key : ∃ hy0, aeff E Γ ops.toList y σ = some (dy, hy0) ∧ aeff E Γ ops.toList x (σ.put y.dst dy hy0) = some (dx, hy) := by
    have back : ∀ (hy0 : List AObj), aeff E Γ ops.toList x (σ.with hy0) = some (dx, hy) → aeff E Γ ops.toList x (σ.put y.dst dy hy0) = some (dx, hy) := by
     intro hy0 hh
     rw [put_eq σ y.dst dy hy0]
     have := aeff_put (E := E) (Γ := Γ) (σ := σ.with hy0) (dst := y.dst) (d := dy) a3
     have e : (σ.with hy0).heap = hy0 := rfl
     rw [e] at this
     rw [this]; exact hh
    rcases hkk with hkk | hal
    case inr =>
     rw [Bool.or_eq_true] at hal
     rcases hal with hal | hal
     ·exact ⟨_, app_load hal ex ey', back _ (by rw [kind_r (.inr (okind_load hal)) ey']; exact ex)⟩
     ·have hxh := kind_r (.inr (okind_loadA hal)) ex
      subst hxh
      exact ⟨_, ey', back _ (load_app hal ex ey')⟩
    cases hxk : okind E x with
    | p =>
     have hxh := kind_r (.inl hxk) ex
     subst hxh
     refine ⟨hy, ey', back hy ?_⟩
     rw [kind_p hxk, ex]; rfl
    | r =>
     have hxh := kind_r (.inr hxk) ex
     subst hxh
     cases hyk : okind E y with
     | p =>
      have := kind_r (.inl hyk) ey'
      subst this
      exact ⟨_, ey', back _ ex⟩
     | r =>
      have := kind_r (.inr hyk) ey'
      subst this
      exact ⟨_, ey', back _ ex⟩
     | w => rw [hxk, hyk] at hkk; cases hkk
    | w =>
     cases hyk : okind E y with
     | p =>
      rw [kind_p hyk] at ey'
      obtain ⟨⟨d0, h0⟩, e0, e1⟩ := zB.1 ey'
      obtain ⟨rfl, rfl⟩ := zM e1
      have := kind_r (.inl hyk) e0
      subst this
      exact ⟨_, e0, back _ ex⟩
     | r => rw [hxk, hyk] at hkk; cases hkk
     | w => rw [hxk, hyk] at hkk; cases hkk
   obtain ⟨hy0, k1, k2⟩ := key
   refine ⟨_, by simp only [k1]; rfl, ?_⟩
   simp only [k2]
   exact congrArg some (by
    have e := put_put (σ := σ) (x := x.dst) (y := y.dst) (d := dx) (e := dy) (h := hx) (g := hy) a2
    rw [e]
    have : ∀ g g' : List AObj, (σ.put y.dst dy g).put x.dst dx hy = (σ.put y.dst dy g').put x.dst dx hy := by
     intro g g'
     cases x.dst <;> cases y.dst <;> rfl
    first | exact this _ _ | (rw [e]; exact this _ _))
  ·cases h2
 ·cases h1
def SwapJ (J : St → Prop) (E : Env) (Γ : Calling) (ops : Array Oper) (x y : Oper) : Prop := ∀ σ σ1 σ2, J σ → aop E Γ ops.toList x σ = some σ1 → aop E Γ ops.toList y σ1 = some σ2 → ∃ σ3, aop E Γ ops.toList y σ = some σ3 ∧ aop E Γ ops.toList x σ3 = some σ2
def aidx (E : Env) (Γ : Calling) (ops : Array Oper) : List Nat → St → Option St
 | [], σ => some σ
 | i :: r, σ => match ops[i]? with
  | some o => match aop E Γ ops.toList o σ with
   | some σ' => aidx E Γ ops r σ'
   | none => none
  | none => none
theorem aidx_take {E : Env} {Γ : Calling} {ops : Array Oper} {i : Nat} {oi : Oper} (hi : ops[i]? = some oi) {J : St → Prop} (hJ : ∀ (k : Nat) o σ σ', ops[k]? = some o → J σ → aop E Γ ops.toList o σ = some σ' → J σ') : ∀ (pre post : List Nat) (σ σ' : St), J σ → (∀ j ∈ pre, ∃ oj, ops[j]? = some oj ∧ SwapJ J E Γ ops oj oi) →
  aidx E Γ ops (pre ++ i :: post) σ = some σ' → ∃ σ1, aop E Γ ops.toList oi σ = some σ1 ∧ aidx E Γ ops (pre ++ post) σ1 = some σ'
 | [], post, σ, σ', _, _, h => by
  simp only [List.nil_append, aidx, hi] at h
  split at h
  ·rename_i σ1 h1; exact ⟨σ1, h1, by simpa using h⟩
  ·cases h
 | j :: pre, post, σ, σ', hσ, hc, h => by
  obtain ⟨oj, hj, hcomm⟩ := hc j zH
  simp only [List.cons_append, aidx, hj] at h
  split at h
  ·rename_i σj h1
   obtain ⟨σji, h2, h3⟩ := aidx_take hi hJ pre post σj σ' (hJ j oj σ σj hj hσ h1) (fun k hk => hc k (zF _ hk)) h
   obtain ⟨σi, h4, h5⟩ := hcomm _ _ _ hσ h1 h2
   refine ⟨σi, h4, ?_⟩
   simp only [List.cons_append, aidx, hj, h5]
   exact h3
  ·cases h
inductive Reach (ops : Array Oper) : Nat → Nat → Prop where
 | edge (i : Nat) (o : Oper) (e : Edge) (h : ops[i]? = some o) (he : e ∈ o.after) (hb : Region.binds .any e = true) : Reach ops e.on i
 | step (i j : Nat) (o : Oper) (e : Edge) (h : ops[i]? = some o) (he : e ∈ o.after) (hb : Region.binds .any e = true) (hr : Reach ops j e.on) : Reach ops j i
theorem before_fold (ops : Array Oper) : ∀ (l : List Oper) (acc : Array Nat), (∀ (q : Nat) o, l[q]? = some o → ops[acc.size + q]? = some o) → (∀ i j, (acc.getD i 0).testBit j = true → Reach ops j i) →
  ∀ i j, ((l.foldl (fun acc o => acc.push (o.after.foldl (fun s e => if Region.binds .any e then s ||| 2 ^ e.on ||| acc.getD e.on 0 else s) 0)) acc).getD i 0).testBit j = true → Reach ops j i
 | [], acc, _, h, i, j, hb => h i j hb
 | o :: l, acc, hl, h, i, j, hb => by
  simp only [List.foldl_cons] at hb
  refine before_fold ops l _ (fun q o' hq => ?_) (fun i j hb => ?_) i j hb
  ·have := hl (q + 1) o' (by simpa using hq)
   simpa [Nat.add_assoc, Nat.add_comm 1 q] using this
  ·have ho : ops[acc.size]? = some o := by simpa using hl 0 o rfl
   by_cases hi : i < acc.size
   ·refine h i j ?_
    simpa [Array.getD, Array.getElem_push, hi, Nat.lt_succ_of_lt hi] using hb
   ·by_cases hi' : i = acc.size
    ·subst hi'
     have hval : (acc.push (o.after.foldl (fun s e => if Region.binds .any e then s ||| 2 ^ e.on ||| acc.getD e.on 0 else s) 0)).getD acc.size 0 = o.after.foldl (fun s e => if Region.binds .any e then s ||| 2 ^ e.on ||| acc.getD e.on 0 else s) 0 := by
      simp [Array.getD]
     rw [hval, ← Array.foldl_toList] at hb
     have : ∀ (es : List Edge) (s : Nat), (∀ e ∈ es, e ∈ o.after) → (s.testBit j = true → Reach ops j acc.size) → (es.foldl (fun s e => if Region.binds .any e then s ||| 2 ^ e.on ||| acc.getD e.on 0 else s) s).testBit j = true → Reach ops j acc.size := by
      intro es
      induction es with
      | nil => intro s _ hs hb; exact hs hb
      | cons e es ih =>
       intro s hm hs hb
       simp only [List.foldl_cons] at hb
       refine ih _ (fun e' he' => hm e' (zF _ he')) ?_ hb
       intro hb'
       split at hb'
       ·rename_i hbind
        rw [Nat.testBit_or, Nat.testBit_or, Bool.or_eq_true, Bool.or_eq_true] at hb'
        rcases hb' with (hb' | hb') | hb'
        ·exact hs hb'
        ·rw [Nat.testBit_two_pow] at hb'
         have : e.on = j := by simpa using hb'
         subst this
         exact .edge _ o e ho (hm e zH) hbind
        ·exact .step _ j o e ho (hm e zH) hbind (h _ _ hb')
       ·exact hs hb'
     exact this o.after.toList 0 (fun e he => by simpa using he) (fun hb => by simp at hb) hb
    ·have : ¬ i < acc.size + 1 := by omega
     simp [Array.getD, this] at hb
theorem before_reach (ops : Array Oper) {j : Nat} (h : ((Region.before ops).getD i 0).testBit j = true) : Reach ops j i := by
 unfold Region.before at h
 rw [← Array.foldl_toList] at h
 exact before_fold ops ops.toList #[] (fun q o hq => by simpa using hq) (fun i j hb => by simp [Array.getD] at hb) i j h
theorem step_sound {P : Program} {E : Env} {Γ : Calling} (hT : ∀ t i, E.T t = some i → tiOf P t = some i) (hΓ : CSound DR P Γ) {ops : Array Oper} {Q : Exit → Act → World → Prop} : ∀ (l : List Nat) {S : Nat → Nat → Prop} {β : Blocks} {σ σ' : St} {a : Act} {w : World},
  Inv S β σ a w → aidx E Γ ops l σ = some σ' → (∀ S' β' a' w', Inv S' β' σ' a' w' → Ext DR S β w S' β' w' → Q .normal a' w') → wpOps P ops Q l a w
 | [], S, β, σ, σ', a, w, hI, hs, hQ => by
  simp only [aidx, Option.some.injEq] at hs
  subst hs
  exact hQ S β a w hI (Ext.refl _ _ _)
 | i :: r, S, β, σ, σ', a, w, hI, hs, hQ => by
  simp only [aidx] at hs
  split at hs
  ·rename_i o ho
   split at hs
   ·rename_i σ1 h1
    rw [wpOps_cons]
    exact aop_sound hT hΓ ho hI h1 (fun S1 β1 a1 w1 hI1 hE1 => step_sound hT hΓ r hI1 hs (fun S' β' a' w' hI' hE' => hQ S' β' a' w' hI' (hE1.trans hE')))
   ·cases hs
  ·cases hs
theorem aidx_range {E : Env} {Γ : Calling} {ops : Array Oper} : ∀ (l : List Oper) (k : Nat) (σ : St), (∀ (q : Nat) o, l[q]? = some o → ops[k + q]? = some o) → aidx E Γ ops (List.range' k l.length) σ = aops E Γ ops.toList l σ
 | [], k, σ, _ => rfl
 | o :: l, k, σ, h => by
  have h0 : ops[k]? = some o := by simpa using h 0 o rfl
  simp only [List.length_cons, List.range'_succ, aidx, h0, aops]
  cases aop E Γ ops.toList o σ with
  | none => rfl
  | some σ1 => exact aidx_range l (k + 1) σ1 (fun q o' hq => by have := h (q + 1) o' (by simpa using hq); simpa [Nat.add_assoc, Nat.add_comm 1 q] using this)
structure Rem (ops : Array Oper) (listed : Array Bool) (rem : List Nat) : Prop where
 size : listed.size = ops.size
 sorted : rem.Pairwise (· < ·)
 mem : ∀ i, i ∈ rem ↔ i < ops.size ∧ listed.getD i true = false
 closed : ∀ (i : Nat) o (e : Edge), i < ops.size → listed.getD i true = true → ops[i]? = some o → e ∈ o.after → Region.binds .any e = true → listed.getD e.on false = true
variable {listed : Array Bool}
theorem ready_spec (h : i ∈ Region.ready .any ops listed) : i < ops.size ∧ listed.getD i true = false ∧ ∃ o, ops[i]? = some o ∧ ∀ e ∈ o.after, Region.binds .any e = true → listed.getD e.on false = true := by
 unfold Region.ready at h
 rw [List.mem_filter, List.mem_range, Bool.and_eq_true] at h
 obtain ⟨h1, h2, h3⟩ := h
 refine ⟨h1, by simpa using h2, ?_⟩
 rw [zD h1] at h3 ⊢
 refine ⟨_, rfl, fun e he hb => ?_⟩
 simp only [Option.map_some, Option.getD_some, Array.all_eq_true_iff_forall_mem] at h3
 have := h3 e he
 rw [hb] at this
 simpa using this
theorem reach_listed {rem : List Nat} (hR : Rem ops listed rem) : ∀ {j i : Nat}, Reach ops j i → (∀ (o : Oper) (e : Edge), ops[i]? = some o → e ∈ o.after → Region.binds .any e = true → listed.getD e.on false = true) → listed.getD j false = true := by
 intro j i h
 induction h with
 | edge i o e ho he hb => exact fun hall => hall o e ho he hb
 | step i j o e ho he hb hr ih =>
  intro hall
  have hon := hall o e ho he hb
  refine ih (fun o' e' ho' he' hb' => ?_)
  have hlt : e.on < ops.size := (Array.getElem?_eq_some_iff.1 ho').1
  exact hR.closed e.on o' e' hlt (by simpa [Array.getD, hR.size, hlt] using hon) ho' he' hb'
theorem any_soundS {E : Env} (hT : ∀ t i, E.T t = some i → tiOf P t = some i) (hΓ : CSound DR P Γ) {J : St → Prop} (hJ : ∀ (k : Nat) o σ σ', ops[k]? = some o → J σ → aop E Γ ops.toList o σ = some σ' → J σ') (hf1 : (ops.toList.zipIdx.all (fun x => x.1.after.all fun e => !Region.binds .any e || decide (e.on < x.2))) = true)
  (hf2 : ∀ i, i < ops.size → ∀ j, j < i → ((Region.before ops).getD i 0).testBit j = true ∨ ∃ x y, ops[j]? = some x ∧ ops[i]? = some y ∧ SwapJ J E Γ ops x y) : ∀ (fuel : Nat) (rem : List Nat) (listed : Array Bool) {S : Nat → Nat → Prop} {β : Blocks} {σ σ' : St} {a : Act} {w : World},
  J σ → rem.length = fuel → Rem ops listed rem → Inv S β σ a w → aidx E Γ ops rem σ = some σ' → (∀ S' β' a' w', Inv S' β' σ' a' w' → Ext DR S β w S' β' w' → Q .normal a' w') → wpAny P .any ops Q fuel listed a w := by
 intro fuel
 induction fuel with
 | zero =>
  intro rem listed S β σ σ' a w hσ hl hR hI hs hQ
  have hrem : rem = [] := List.eq_nil_of_length_eq_zero hl
  subst hrem
  simp only [aidx, Option.some.injEq] at hs
  subst hs
  refine ⟨?_, hQ S β a w hI (Ext.refl _ _ _)⟩
  rw [List.eq_nil_iff_forall_not_mem]
  intro i hi
  obtain ⟨h1, h2, _⟩ := ready_spec hi
  have := (hR.mem i).2 ⟨h1, h2⟩
  simp at this
 | succ fuel ih =>
  intro rem listed S β σ σ' a w hσ hl hR hI hs hQ
  refine ⟨fun hready => ?_, fun i hi => ?_⟩
  ·-- the first of those left could be taken
   exfalso
   cases rem with
   | nil => simp at hl
   | cons m r =>
    obtain ⟨m1, m2⟩ := (hR.mem m).1 zH
    have : m ∈ Region.ready .any ops listed := by
     unfold Region.ready
     rw [List.mem_filter, List.mem_range, Bool.and_eq_true]
     refine ⟨m1, by simpa using m2, ?_⟩
     rw [zD m1]
     simp only [Option.map_some, Option.getD_some, Array.all_eq_true_iff_forall_mem]
     intro e he
     rw [Bool.or_eq_true]
     by_cases hb : Region.binds .any e = true
     ·right
      have hz := zZ.1 hf1 (ops[m], m) (by
       rw [List.mem_zipIdx_iff_getElem?]
       simp [zD m1])
      have hz' := Array.all_eq_true_iff_forall_mem.1 hz e he
      rw [hb] at hz'
      have hlt : e.on < m := by simpa using hz'
      have hnot : e.on ∉ m :: r := by
       intro hm
       rcases List.mem_cons.1 hm with h | h
       ·omega
       ·have := (List.pairwise_cons.1 hR.sorted).1 _ h; omega
      have hon : e.on < ops.size := by omega
      have : ¬ listed.getD e.on true = false := fun h => hnot ((hR.mem e.on).2 ⟨hon, h⟩)
      simpa [Array.getD, hR.size, hon] using this
     ·left; simpa using hb
    rw [hready] at this
    simp at this
  ·obtain ⟨i1, i2, oi, hoi, hall⟩ := ready_spec hi
   have hmem : i ∈ rem := (hR.mem i).2 ⟨i1, i2⟩
   obtain ⟨pre, post, rfl⟩ := List.append_of_mem hmem
   have hsort := hR.sorted
   have hprelt : ∀ j ∈ pre, j < i := fun j hj => by
    rw [List.pairwise_append] at hsort
    exact hsort.2.2 j hj i zH
   have hpost : ∀ j ∈ post, i < j := fun j hj => by
    rw [List.pairwise_append, List.pairwise_cons] at hsort
    exact hsort.2.1.1 j hj
   have hcomm : ∀ j ∈ pre, ∃ oj, ops[j]? = some oj ∧ SwapJ J E Γ ops oj oi := by
    intro j hj
    have hji := hprelt j hj
    obtain ⟨j1, j2⟩ := (hR.mem j).1 (List.mem_append_left _ hj)
    rcases hf2 i i1 j hji with h1 | ⟨x, y, hx, hy, hs⟩
    ·exfalso
     have := reach_listed hR (before_reach ops h1) (fun o e ho he hb => by rw [hoi] at ho; cases ho; exact hall e he hb)
     simp [Array.getD, hR.size, j1] at this j2
     rw [this] at j2; cases j2
    ·rw [hoi] at hy
     cases hy
     exact ⟨x, hx, hs⟩
   obtain ⟨σ1, h1, h2⟩ := aidx_take hoi hJ pre post σ σ' hσ hcomm hs
   refine aop_sound hT hΓ hoi hI h1 (fun S1 β1 a1 w1 hI1 hE1 => ?_)
   refine ih (pre ++ post) _ (hJ i oi σ σ1 hoi hσ h1) (by simp at hl ⊢; omega) ⟨by simp [hR.size], ?_, fun q => ?_, fun q o e hq hlq ho he hb => ?_⟩ hI1 h2 (fun S' β' a' w' hI' hE' => hQ S' β' a' w' hI' (hE1.trans hE'))
   ·rw [List.pairwise_append] at hsort ⊢
    exact ⟨hsort.1, (List.pairwise_cons.1 hsort.2.1).2, fun x hx y hy => hsort.2.2 x hx y (zF _ hy)⟩
   ·have hq := hR.mem q
    simp only [List.mem_append, List.mem_cons] at hq ⊢
    have hgetD : (listed.setIfInBounds i true).getD q true = if i = q then true else listed.getD q true := by
     simp only [Array.getD_eq_getD_getElem?, Array.getElem?_setIfInBounds]
     split
     ·split <;> rfl
     ·rfl
    rw [hgetD]
    by_cases hqi : i = q
    ·subst hqi
     simp only [if_true]
     constructor
     ·rintro (h | h)
      ·have := hprelt i h; omega
      ·have := hpost i h; omega
     ·rintro ⟨_, h⟩; cases h
    ·rw [if_neg hqi]
     constructor
     ·rintro (h | h)
      ·exact hq.1 (.inl h)
      ·exact hq.1 (.inr (.inr h))
     ·intro h
      rcases hq.2 h with h | h | h
      ·exact .inl h
      ·exact absurd h.symm hqi
      ·exact .inr h
   ·have hup : ∀ x, listed.getD x false = true → (listed.setIfInBounds i true).getD x false = true := by
     intro x hx
     simp only [Array.getD_eq_getD_getElem?, Array.getElem?_setIfInBounds] at hx ⊢
     split
     ·rename_i hix
      subst hix
      rw [if_pos (by rw [hR.size]; exact i1)]; rfl
     ·exact hx
    by_cases hqi : i = q
    ·subst hqi
     rw [hoi] at ho
     cases ho
     exact hup _ (hall e he hb)
    ·refine hup _ (hR.closed q o e hq ?_ ho he hb)
     simp only [Array.getD_eq_getD_getElem?, Array.getElem?_setIfInBounds, if_neg hqi] at hlq ⊢
     exact hlq
theorem any_sound {E : Env} (hT : ∀ t i, E.T t = some i → tiOf P t = some i) (hΓ : CSound DR P Γ) (hf : orderFree E ops = true) (fuel : Nat) (rem : List Nat) (listed : Array Bool)
  (h1 : rem.length = fuel) (h2 : Rem ops listed rem) (h3 : Inv S β σ a w) (h4 : aidx E Γ ops rem σ = some σ') (h5 : ∀ S' β' a' w', Inv S' β' σ' a' w' → Ext DR S β w S' β' w' → Q .normal a' w') : wpAny P .any ops Q fuel listed a w := by
 unfold orderFree at hf
 rw [Bool.and_eq_true] at hf
 obtain ⟨hf1, hf2⟩ := hf
 refine any_soundS hT hΓ (J := fun _ => True) (fun _ _ _ _ _ _ _ => trivial) hf1 (fun i hi j hji => ?_) fuel rem listed trivial h1 h2 h3 h4 h5
 have h0 := zZ.1 hf2 i (List.mem_range.2 hi)
 have h1 := zZ.1 h0 j (List.mem_range.2 hji)
 rw [Bool.or_eq_true] at h1
 rcases h1 with h1 | h1
 ·exact .inl h1
 ·rw [zD (show j < ops.size by omega), zD hi] at h1
  exact .inr ⟨_, _, zD (show j < ops.size by omega), zD hi, fun σ σ1 σ2 _ g1 g2 => aop_comm h1 g1 g2⟩
theorem aop_comm_of {E : Env} (hap : x.apart ops y = true)
  (hkey : ∀ dx hx dy hy, aeff E Γ ops.toList x σ = some (dx, hx) → aeff E Γ ops.toList y (σ.with hx) = some (dy, hy) → ∃ hy0, aeff E Γ ops.toList y σ = some (dy, hy0) ∧ aeff E Γ ops.toList x (σ.with hy0) = some (dx, hy))
  (h1 : aop E Γ ops.toList x σ = some σ1) (h2 : aop E Γ ops.toList y σ1 = some σ2) : ∃ σ3, aop E Γ ops.toList y σ = some σ3 ∧ aop E Γ ops.toList x σ3 = some σ2 := by
 obtain ⟨a1, a2, a3⟩ := Oper.apart_spec hap
 unfold aop at h1 h2 ⊢
 split at h1
 ·rename_i dx hx ex
  cases h1
  split at h2
  ·rename_i dy hy ey
   cases h2
   have ey' : aeff E Γ ops.toList y (σ.with hx) = some (dy, hy) := by
    have := aeff_put (E := E) (Γ := Γ) (σ := σ.with hx) (dst := x.dst) (d := dx) a1
    rw [← this]
    have e : (σ.with hx).put x.dst dx (σ.with hx).heap = σ.put x.dst dx hx := (put_eq σ x.dst dx hx).symm
    rw [e]; exact ey
   have back : ∀ (hy0 : List AObj), aeff E Γ ops.toList x (σ.with hy0) = some (dx, hy) → aeff E Γ ops.toList x (σ.put y.dst dy hy0) = some (dx, hy) := by
    intro hy0 hh
    rw [put_eq σ y.dst dy hy0]
    have := aeff_put (E := E) (Γ := Γ) (σ := σ.with hy0) (dst := y.dst) (d := dy) a3
    have e : (σ.with hy0).heap = hy0 := rfl
    rw [e] at this
    rw [this]; exact hh
   obtain ⟨hy0, k1, k2⟩ := hkey dx hx dy hy ex ey'
   have k2 := back hy0 k2
   refine ⟨_, by simp only [k1]; rfl, ?_⟩
   simp only [k2]
   exact congrArg some (by
    have e := put_put (σ := σ) (x := x.dst) (y := y.dst) (d := dx) (e := dy) (h := hx) (g := hy) a2
    rw [e]
    have : ∀ g g' : List AObj, (σ.put y.dst dy g).put x.dst dx hy = (σ.put y.dst dy g').put x.dst dx hy := by
     intro g g'
     cases x.dst <;> cases y.dst <;> rfl
    first | exact this _ _ | (rw [e]; exact this _ _))
  ·cases h2
 ·cases h1
variable {off r : Nat}
theorem far_store {E : Env} {ops : List Oper} {a : Tmp} {v : Operand} (ho : o.op = .store t (.tmp a) v) (ha : σ.tmps[a]? = some (.ptr r off)) (he : aeff E Γ ops o (σ.with h) = some (d, h')) :
  ∀ q : Nat, q ≠ r → h'[q]? = h[q]? := by
 intro q hq
 have hev : (σ.with h).ev (.tmp a) = .ptr r off := by
  show (σ.with h).tmps.getD a .undef = _
  have : (σ.with h).tmps = σ.tmps := rfl
  rw [this]
  simp [List.getD, ha]
 unfold aeff at he
 split at he
 ·simp only [ares, ho, hev] at he
  split at he
  ·obtain ⟨h1, g1, g2⟩ := zB.1 he
   cases g2
   unfold storeD at g1
   split at g1
   ·simp only at g1
    split at g1
    ·obtain ⟨cs, _, rfl⟩ := zB.1 g1
     exact zO (Ne.symm hq)
    ·obtain ⟨cs, _, rfl⟩ := zB.1 g1
     exact zO (Ne.symm hq)
    ·cases g1
   ·cases g1
  ·cases he
 ·obtain ⟨_, rfl⟩ := zM (zC he); rfl
 ·cases he
theorem far_load {E : Env} {ops : List Oper} {b : Tmp} (ho : o.op = .load t (.tmp b)) (hb : σ.tmps[b]? = some (.ptr r off)) (hg : h'[r]? = h[r]?) (he : aeff E Γ ops o (σ.with h) = some (d, g)) :
  g = h ∧ aeff E Γ ops o (σ.with h') = some (d, h') := by
 have hev : ∀ h : List AObj, (σ.with h).ev (.tmp b) = .ptr r off := by
  intro h
  show (σ.with h).tmps.getD b .undef = _
  have : (σ.with h).tmps = σ.tmps := rfl
  rw [this]
  simp [List.getD, hb]
 have hgd : aguard ops (σ.with h') o = aguard ops (σ.with h) o := rfl
 unfold aeff at he ⊢
 rw [hgd]
 split at he
 ·simp only [ares, ho, hev] at he ⊢
  split at he
  ·obtain ⟨d1, g1, g2⟩ := zB.1 he
   cases g2
   refine ⟨rfl, ?_⟩
   have h1 : (σ.with h').heap = h' := rfl
   have h2 : (σ.with h).heap = h := rfl
   rw [h2] at g1
   rw [h1]
   simp only [loadD, hg] at g1 ⊢
   rw [g1]; rfl
  ·cases he
 ·obtain ⟨rfl, rfl⟩ := zM (zC he); exact ⟨rfl, rfl⟩
 ·cases he
variable {σ0 : St}
theorem far_swap {E : Env} (hf : farAt ops σ0 x y = true) : SwapJ (fun σ => ∀ t, pinned ops t = true → σ.tmps[t]? = σ0.tmps[t]?) E Γ ops x y := by
 intro σ σ1 σ2 hJ h1 h2
 unfold farAt at hf
 rw [Bool.and_eq_true] at hf
 obtain ⟨hap, hf⟩ := hf
 refine aop_comm_of hap (fun dx hx dy hy ex ey => ?_) h1 h2
 have hw : σ.with σ.heap = σ := rfl
 split at hf
 ·rename_i a b hab
  rw [Bool.and_eq_true, Bool.and_eq_true] at hf
  obtain ⟨pa, pb, hf⟩ := hf
  split at hf
  ·rename_i r o r' o' ra rb
   rw [← hJ a pa] at ra
   rw [← hJ b pb] at rb
   have hne : r ≠ r' := by simpa using hf
   unfold farTmps at hab
   split at hab
   ·rename_i t a' v t' b' hx' hy'
    cases hab
    have e1 := far_store hx' ra (h := σ.heap) (by rw [hw]; exact ex)
    obtain ⟨g1, g2⟩ := far_load hy' rb (h := hx) (h' := σ.heap) (e1 r' (Ne.symm hne)).symm ey
    subst g1
    exact ⟨σ.heap, by rw [hw] at g2; exact g2, ex⟩
   ·rename_i t a' t' b' v hx' hy'
    cases hab
    obtain ⟨g1, _⟩ := far_load hx' ra (h := σ.heap) (h' := σ.heap) rfl (by rw [hw]; exact ex)
    subst g1
    have e1 := far_store hy' rb ey
    obtain ⟨_, g2⟩ := far_load hx' ra (h := σ.heap) (h' := hy) (e1 r hne) (by rw [hw]; exact ex)
    exact ⟨hy, ey, g2⟩
   ·cases hab
  ·cases hf
 ·cases hf
theorem pinned_keep {E : Env} : ∀ (k : Nat) o σ σ', ops[k]? = some o → (∀ t, pinned ops t = true → σ.tmps[t]? = σ0.tmps[t]?) → aop E Γ ops.toList o σ = some σ' → ∀ t, pinned ops t = true → σ'.tmps[t]? = σ0.tmps[t]? := by
 intro k o σ σ' ho hJ h t ht
 rw [← hJ t ht]
 have hne : o.dst ≠ some t := by
  have := zZ.1 ht o (zE (i := k) (by simpa using ho))
  simpa using this
 unfold aop at h
 split at h
 ·cases h
  unfold St.put
  split
  ·rename_i u hu
   exact zO (fun e => hne (by rw [hu, e]))
  ·rfl
 ·cases h
theorem far_sound {E : Env} (hT : ∀ t i, E.T t = some i → tiOf P t = some i) (hΓ : CSound DR P Γ) (hf : farOk E ops σ = true) (fuel : Nat) (rem : List Nat) (listed : Array Bool)
  (h1 : rem.length = fuel) (h2 : Rem ops listed rem) (h3 : Inv S β σ a w) (h4 : aidx E Γ ops rem σ = some σ') (h5 : ∀ S' β' a' w', Inv S' β' σ' a' w' → Ext DR S β w S' β' w' → Q .normal a' w') : wpAny P .any ops Q fuel listed a w := by
 unfold farOk at hf
 rw [Bool.and_eq_true] at hf
 obtain ⟨hf1, hf2⟩ := hf
 refine any_soundS hT hΓ (J := fun τ => ∀ t, pinned ops t = true → τ.tmps[t]? = σ.tmps[t]?) pinned_keep hf1 (fun i hi j hji => ?_) fuel rem listed (fun _ _ => rfl) h1 h2 h3 h4 h5
 have h0 := zZ.1 hf2 i (List.mem_range.2 hi)
 have h1 := zZ.1 h0 j (List.mem_range.2 hji)
 rw [Bool.or_eq_true] at h1
 rcases h1 with h1 | h1
 ·exact .inl h1
 ·rw [zD (show j < ops.size by omega), zD hi] at h1
  simp only [Bool.or_eq_true] at h1
  rcases h1 with h1 | h1
  ·exact .inr ⟨_, _, zD (show j < ops.size by omega), zD hi, fun σ σ1 σ2 _ g1 g2 => aop_comm h1 g1 g2⟩
  ·exact .inr ⟨_, _, zD (show j < ops.size by omega), zD hi, fun τ τ1 τ2 hJ g1 g2 => far_swap h1 τ τ1 τ2 hJ g1 g2⟩
theorem rem_start (ops : Array Oper) : Rem ops (Array.replicate ops.size false) (List.range ops.size) := by
 refine ⟨by simp, ?_, fun i => ?_, fun i o e hi hl => ?_⟩
 ·rw [List.range_eq_range']; exact List.pairwise_lt_range'
 ·simp only [List.mem_range]
  constructor
  ·intro h; exact ⟨h, by simp [Array.getD, h]⟩
  ·exact fun h => h.1
 ·simp [Array.getD, hi] at hl
variable {DR : Prop}
variable {S : Nat → Nat → Prop} {w : World} {β β' : Blocks}
theorem RelD.withRef {v : Value} {d : D} {r r' : Nat} (h : RelD S β w v d) (hr : d.ref? = some r) (hb : ∀ x, β[r]? = some x → β'[r']? = some x) : RelD S β' w v (d.withRef r') := by
 cases h <;> simp only [D.ref?, Option.some.injEq] at hr <;> first | (cases hr; done) | skip
 case ptr r0 off b c k h => subst hr; exact .ptr _ off b c k (hb _ h)
 case map r0 b c k h => subst hr; exact .map _ b c k (hb _ h)
 case osl r0 off len b c k p cap full h h2 hp hcap => subst hr; exact .osl _ off len b c k p cap full (hb _ h) h2 hp hcap
 case tsl t b c k n es h hn hs hv => subst hr; exact .tsl _ b c k n es (hb _ h) hn hs hv
theorem RelD.under {S : Nat → Nat → Prop} {β β' : Blocks} {w : World} {L : Nat} (hb : ∀ (r : Nat) x, r < L → β[r]? = some x → β'[r]? = some x) : ∀ (n : Nat) {v : Value} {d : D}, RelD S β w v d → d.under L n = true → RelD S β' w v d
 | 0, _, _, h, hd => by simp [D.under] at hd
 | n + 1, _, _, h, hd => by
  cases h with
  | undef _ => exact .undef _
  | v _ x h => exact .v _ x h
  | ptr r off b c k h => exact .ptr r off b c k (hb _ _ (by simpa [D.under] using hd) h)
  | eptr r i off b c k p h hp => exact .eptr r i off b c k p (hb _ _ (by simpa [D.under] using hd) h) hp
  | vptr b off cells vals hs hr => exact .vptr b off cells vals hs hr
  | map r b c k h => exact .map r b c k (hb _ _ (by simpa [D.under] using hd) h)
  | osl r off len b c k p cap full h h2 hp hcap => exact .osl r off len b c k p cap full (hb _ _ (by simpa [D.under] using hd) h) h2 hp hcap
  | tsl t b c k n es h hn hs hv => exact .tsl t b c k n es (hb _ _ (by simpa [D.under] using hd) h) hn hs hv
  | func f first captured fs cs hl hl' hr hr' =>
   simp only [D.under, Bool.and_eq_true, zZ] at hd
   exact .func f first captured fs cs hl hl' (fun i v x h1 h2 => RelD.under hb n (hr i v x h1 h2) (hd.1 x (zE h2))) (fun i v x h1 h2 => RelD.under hb n (hr' i v x h1 h2) (hd.2 x (zE h2)))
  | agg vs cs hl hr =>
   simp only [D.under, zZ] at hd
   exact .agg vs cs hl (fun i v x h1 h2 => RelD.under hb n (hr i v x h1 h2) (hd x (zE h2)))
  | tuple vs cs hl hr =>
   simp only [D.under, zZ] at hd
   exact .tuple vs cs hl (fun i v x h1 h2 => RelD.under hb n (hr i v x h1 h2) (hd x (zE h2)))
  | box t v d hr =>
   simp only [D.under] at hd
   exact .box t v d (RelD.under hb n hr hd)
variable {L : Nat}
theorem ObjRel.under (hb : ∀ (r : Nat) x, r < L → β[r]? = some x → β'[r]? = some x) {b c k : Nat} {o : AObj} (h : ObjRel S β w b c k o) (ho : o.under L = true) : ObjRel S β' w b c k o := by
 cases o with
 | cells cs =>
  obtain ⟨h1, h2, h3, cur, e, h4, h5, h6⟩ := h
  simp only [AObj.under, zZ] at ho
  exact ⟨h1, h2, h3, cur, e, h4, h5, fun j v d hv hd => (h6 j v d hv hd).under hb 5 (ho d (zE hd))⟩
 | grid k' cs =>
  obtain ⟨h1, h0, h2, h3, cur, e, h4, h5, h6⟩ := h
  simp only [AObj.under, zZ] at ho
  exact ⟨h1, h0, h2, h3, cur, e, h4, h5, fun j v d hv hd => (h6 j v d hv hd).under hb 5 (ho d (zE hd))⟩
 | map ks vs =>
  obtain ⟨h1, h2, es, h3, h4, h5, h6, h7⟩ := h
  simp only [AObj.under, zZ] at ho
  exact ⟨h1, h2, es, h3, h4, h5, h6, fun i e d he hd => (h7 i e d he hd).under hb 5 (ho d (zE hd))⟩
 | iter m since seen last =>
  obtain ⟨h1, mv, h2, h3⟩ := h
  exact ⟨h1, mv, h2, h3.under hb 5 ho⟩
 | _ => exact h
variable {a : Act} {σ : St}
theorem Inv.padS (h : Inv S β σ a w) : ∃ β', Inv S β' (padS σ) a w ∧ Ext DR S β w S β' w := by
 obtain ⟨e1, e2⟩ := h.heap.pad (DR := DR)
 exact ⟨_, ⟨h.size, fun i v d h1 h2 => (h.tmps i v d h1 h2).mono e1.keeps e1.pre, e2, h.defers⟩, e1⟩
theorem Inv.moveT (h : Inv S β σ a w) (s : Nat) : ∃ β', Inv S β' (moveT σ s) a w ∧ Ext DR S β w S β' w := by
 unfold Abs.moveT
 split
 ·rename_i d hd
  split
  ·rename_i r hr
   split
   ·rename_i o ho
    split
    ·rename_i hl
     have hlt := yE ho
     have hlen := h.heap.len
     obtain ⟨⟨b, c, k⟩, hb⟩ : ∃ x, β[r]? = some x := ⟨_, zA om⟩
     obtain ⟨e1, e2⟩ := h.heap.move ho hl hb
     refine ⟨_, ⟨by simp [h.size], fun i v d' h1 h2 => ?_, e2, h.defers⟩, e1⟩
     simp only [zR] at h2
     split at h2
     ·rename_i e
      subst e
      split at h2
      ·cases h2
       refine (h.tmps s v d h1 hd).withRef hr (fun x hx => ?_)
       rw [hb] at hx
       cases hx
       rw [← hlen]
       simp
      ·cases h2
     ·exact (h.tmps i v d' h1 h2).mono e1.keeps e1.pre
    ·exact h.padS
   ·exact h.padS
  ·exact h.padS
 ·exact h.padS
theorem HInv.recell {h : List AObj} (hi : HInv S β w h) {p : Nat} {cs cs' : List D} (hp : h[p]? = some (.cells cs)) (hl : cs'.length = cs.length)
  (hr : ∀ (j : Nat) (v : Value) (d' : D), cs'[j]? = some d' → (∀ d, cs[j]? = some d → RelD S β w v d) → RelD S β w v d') : HInv S β w (h.set p (.cells cs')) := by
 have hlt := yE hp
 have get : ∀ (r : Nat) (o : AObj), (h.set p (.cells cs'))[r]? = some o → (r = p ∧ o = .cells cs') ∨ (r ≠ p ∧ h[r]? = some o) := by
  intro r o g
  by_cases e : p = r
  ·subst e
   rw [zQ hlt] at g
   cases g; exact .inl ⟨rfl, rfl⟩
  ·rw [zO e] at g
   exact .inr ⟨fun e' => e e'.symm, g⟩
 refine ⟨by rw [zP]; exact hi.len, fun r o b c k g1 g2 => ?_, fun r o b c k g1 l1 g2 => ?_, fun r r' o o' b c k c' k' g1 l1 g2 l2 g3 g4 => ?_, fun r o b c k i g1 l1 g2 => ?_, hi.sb, hi.gl, hi.dl⟩
 ·rcases get r o g1 with ⟨rfl, rfl⟩ | ⟨_, g⟩
  ·obtain ⟨h1, h2, h3, cur, e, h4, h5, h6⟩ := hi.obj r _ b c k hp g2
   exact ⟨h1, h2, by rw [hl]; exact h3, cur, e, h4, h5, fun j v d hv hd => hr j v d hd fun d0 h0 => h6 j v d0 hv h0⟩
  ·exact hi.obj r o b c k g g2
 ·rcases get r o g1 with ⟨rfl, rfl⟩ | ⟨_, g⟩
  ·exact hi.lt r _ b c k hp rfl g2
  ·exact hi.lt r o b c k g l1 g2
 ·rcases get r o g1 with ⟨rfl, rfl⟩ | ⟨_, g⟩ <;> rcases get r' o' g2 with ⟨rfl, rfl⟩ | ⟨_, g'⟩
  ·rfl
  ·exact hi.inj _ r' _ o' b c k c' k' hp rfl g' l2 g3 g4
  ·exact hi.inj r _ o _ b c k c' k' g l1 hp rfl g3 g4
  ·exact hi.inj r r' o o' b c k c' k' g l1 g' l2 g3 g4
 ·rcases get r o g1 with ⟨rfl, rfl⟩ | ⟨_, g⟩
  ·exact hi.own _ (.cells cs) b c k i hp rfl g2
  ·exact hi.own r o b c k i g l1 g2
theorem Inv.moveC (h : Inv S β σ a w) (s off : Nat) : ∃ β', Inv S β' (moveC σ s off) a w ∧ Ext DR S β w S β' w := by
 unfold Abs.moveC
 split
 ·rename_i p _
  split
  ·rename_i cs hp
   split
   ·rename_i d hd
    split
    ·rename_i r hr
     split
     ·rename_i o ho
      split
      ·rename_i hc
       rw [Bool.and_eq_true] at hc
       have hl := hc.1
       have hne : r ≠ p := by simpa using hc.2
       have hlt := yE ho
       have hlen := h.heap.len
       obtain ⟨⟨b, c, k⟩, hb⟩ : ∃ x, β[r]? = some x := ⟨_, zA om⟩
       obtain ⟨e1, e2⟩ := h.heap.move (DR := DR) ho hl hb
       have hp' : (σ.heap.set r .dead ++ [o])[p]? = some (.cells cs) := by
        rw [zJ (by rw [zP]; exact yE hp), zO hne]; exact hp
       refine ⟨_, ⟨h.size, fun i v d' h1 h2 => (h.tmps i v d' h1 h2).mono e1.keeps e1.pre, e2.recell hp' (by simp) fun j v d' h1 h2 => ?_, h.defers⟩, e1⟩
       rw [zR] at h1
       split at h1
       ·rename_i e
        subst e
        split at h1
        ·cases h1
         refine (h2 d hd).withRef hr fun x hx => ?_
         rw [zJ om] at hx
         rw [hb] at hx
         cases hx
         rw [← hlen]
         simp
        ·cases h1
       ·exact h2 d' h1
      ·exact h.padS
     ·exact h.padS
    ·exact h.padS
   ·exact h.padS
  ·exact h.padS
 ·exact h.padS
theorem Inv.moveS (h : Inv S β σ a w) (s : Nat) : ∃ β', Inv S β' (moveS σ s) a w ∧ Ext DR S β w S β' w := by
 unfold Abs.moveS
 split
 ·exact h.moveT s
 ·exact h.moveC _ _
theorem Inv.moves {S : Nat → Nat → Prop} {a : Act} {w : World} : ∀ (acc : List Nat) {β : Blocks} {σ : St}, Inv S β σ a w → ∃ β', Inv S β' (acc.foldl Abs.moveS σ) a w ∧ Ext DR S β w S β' w
 | [], β, σ, h => ⟨β, h, Ext.refl _ _ _⟩
 | s :: acc, β, σ, h => by
  obtain ⟨β1, h1, e1⟩ := h.moveS s
  obtain ⟨β2, h2, e2⟩ := Inv.moves acc h1
  exact ⟨β2, h2, e1.trans e2⟩
variable {M : Nat}
theorem cut_get {α : Type} (l : List α) (hLM : L ≤ M) (hM : M ≤ l.length) (j : Nat) : (l.take L ++ l.drop M)[j]? = if j < L then l[j]? else l[j + (M - L)]? := by
 rw [List.getElem?_append]
 have h1 : (l.take L).length = L := by simp; omega
 rw [h1]
 split
 ·rename_i h; rw [yA, if_pos h]
 ·rename_i h; rw [zY]; congr 1; omega
theorem Inv.cutS (h : Inv S β σ a w) (keep : List Nat) (hLM : L ≤ M) (hM : M ≤ σ.heap.length) :
  ∃ β', Inv S β' (cutS keep L M σ) a w ∧ ∀ (S0 : Nat → Nat → Prop) (β0 : Blocks) (w0 : World), β0.length = L → Ext DR S0 β0 w0 S β w → Ext DR S0 β0 w0 S β' w := by
 unfold Abs.cutS
 split
 ·rename_i hok
  rw [zZ] at hok
  split
  ·rename_i hs ts hhs hts
   obtain ⟨t1, t2⟩ := allM_spec hts
   obtain ⟨u1, u2⟩ := allM_spec hhs
   have u0 : hs.length = L := by rw [u1, zW]; have := h.heap.len; omega
   have hlen := h.heap.len
   have hget := fun j => cut_get β hLM om j
   have hb : ∀ (r : Nat) x, r < L → β[r]? = some x → (β.take L ++ β.drop M)[r]? = some x := fun r x hr hx => by rw [hget, if_pos hr]; exact hx
   have hbM : ∀ (r : Nat) x, M ≤ r → β[r]? = some x → (β.take L ++ β.drop M)[r - (M - L)]? = some x := fun r x hr hx => by
    rw [hget, if_neg om, show r - (M - L) + (M - L) = r by omega]; exact hx
   have cutC_rel : ∀ {v : Value} {d d' : D}, RelD S β w v d → cutC L M d = some d' → RelD S (β.take L ++ β.drop M) w v d' := by
    intro v d d' hd hc
    unfold cutC at hc
    split at hc
    ·rename_i hbel; cases hc; exact hd.under hb 5 hbel
    ·split at hc
     ·rename_i r href
      split at hc
      ·rename_i hMr; cases hc
       exact hd.withRef href fun x hx => hbM r x hMr hx
      ·cases hc
     ·cases hc
   have cut_rel : ∀ {o o' : AObj} {b c k : Nat}, ObjRel S β w b c k o → AObj.cut L M o = some o' → ObjRel S (β.take L ++ β.drop M) w b c k o' ∧ o'.live = o.live ∧ o'.room = o.room := by
    intro o o' b c k hob hc
    cases o with
    | cells cs =>
     obtain ⟨cs', hcs, rfl⟩ := zB.1 hc
     obtain ⟨v1, v2⟩ := allM_spec hcs
     obtain ⟨h1, h2, h3, cur, e, h4, h5, h6⟩ := hob
     refine ⟨⟨h1, h2, om, cur, e, h4, h5, fun j v d hv hd => ?_⟩, rfl, rfl⟩
     have hj : j < cs.length := by have := yE hd; omega
     have hx := zA hj
     exact cutC_rel (h6 j v _ hv hx) (v2 j _ d hx hd)
    | grid k' cs =>
     obtain ⟨cs', hcs, rfl⟩ := zB.1 hc
     obtain ⟨v1, v2⟩ := allM_spec hcs
     obtain ⟨h1, h0, h2, h3, cur, e, h4, h5, h6⟩ := hob
     refine ⟨⟨h1, h0, h2, om, cur, e, h4, h5, fun j v d hv hd => ?_⟩, rfl, rfl⟩
     have hj : j < cs.length := by have := yE hd; omega
     have hx := zA hj
     exact cutC_rel (h6 j v _ hv hx) (v2 j _ d hx hd)
    | _ =>
     simp only [AObj.cut] at hc
     split at hc
     ·rename_i hu; cases hc; exact ⟨hob.under hb hu, rfl, rfl⟩
     ·cases hc
   -- the old place
   have old : ∀ (q : Nat) o x, (hs ++ σ.heap.drop M)[q]? = some o → (β.take L ++ β.drop M)[q]? = some x → ∃ q' o0, σ.heap[q']? = some o0 ∧ β[q']? = some x ∧ (q' = q ∧ q < L ∨ q' = q + (M - L) ∧ L ≤ q) ∧ (∀ {b c k : Nat}, ObjRel S β w b c k o0 → ObjRel S (β.take L ++ β.drop M) w b c k o) ∧ o.live = o0.live ∧ o.room = o0.room := by
    intro q o x g1 g2
    rw [hget] at g2
    by_cases hq : q < L
    ·rw [if_pos hq] at g2
     rw [zJ om] at g1
     have hql : q < σ.heap.length := by omega
     have hx : (σ.heap.take L)[q]? = some σ.heap[q] := by rw [List.getElem?_take_of_lt hq]; exact zA hql
     have hc := u2 q _ o hx g1
     obtain ⟨⟨b0, c0, k0⟩, hb0⟩ : ∃ y, β[q]? = some y := ⟨x, g2⟩
     have hob := h.heap.obj q _ b0 c0 k0 (zA hql) hb0
     exact ⟨q, _, zA hql, g2, .inl ⟨rfl, hq⟩, fun hr => (cut_rel hr hc).1, (cut_rel hob hc).2.1, (cut_rel hob hc).2.2⟩
    ·rw [if_neg hq] at g2
     rw [zK om, u0] at g1
     have hu := hok o (zE g1)
     rw [zY, show M + (q - L) = q + (M - L) by omega] at g1
     exact ⟨_, o, g1, g2, .inr ⟨rfl, om⟩, fun hr => hr.under hb hu, rfl, rfl⟩
   refine ⟨β.take L ++ β.drop M, ⟨?_, fun i v d h1 h2 => ?_, ⟨by simp only [List.length_append, zW, List.length_drop, u0]; omega, fun q o b c k g1 g2 => ?_, fun q o b c k g1 l1 g2 => ?_, fun q1 q2 o1 o2 b c1 k1 c2 k2 g1 l1 g2 l2 g3 g4 => ?_, fun q o b c k i g1 l1 g2 => ?_, h.heap.sb, h.heap.gl, fun r b c k hr => by
    rw [hget] at hr
    split at hr
    ·exact h.heap.dl _ _ _ _ hr
    ·exact h.heap.dl _ _ _ _ hr⟩, h.defers⟩, fun S0 β0 w0 hl hE => ?_⟩
   ·show a.tmps.size = ts.length
    rw [t1]; simp [h.size]
   ·have hlt := yE h2
    have hlt' : i < σ.tmps.length := by simpa [t1] using hlt
    have hd := zA hlt'
    have hm : (σ.tmps.mapIdx (cutD keep L M))[i]? = some (cutD keep L M i σ.tmps[i]) := by rw [List.getElem?_mapIdx, hd]; rfl
    have hc : cutD keep L M i σ.tmps[i] = some d := t2 i _ d hm h2
    have hr := h.tmps i v _ h1 hd
    unfold cutD at hc
    split at hc
    ·split at hc
     ·rename_i hbel
      cases hc
      exact hr.under hb 5 hbel
     ·split at hc
      ·rename_i r href
       split at hc
       ·rename_i hMr
        cases hc
        refine hr.withRef href (fun x hx => ?_)
        rw [hget, if_neg om]
        have : r - (M - L) + (M - L) = r := by omega
        rw [this]; exact hx
       ·cases hc
      ·cases hc
    ·cases hc; exact .undef _
   ·obtain ⟨q', o0, a1, a2, _, a4, _⟩ := old q o _ g1 g2
    exact a4 (h.heap.obj q' o0 b c k a1 a2)
   ·obtain ⟨q', o0, a1, a2, _, _, a5, _⟩ := old q o _ g1 g2
    exact h.heap.lt q' o0 b c k a1 (a5 ▸ l1) a2
   ·obtain ⟨p1, x1, a1, a2, a3, _, a5, _⟩ := old q1 o1 _ g1 g3
    obtain ⟨p2, x2, b1, b2, b3, _, b5, _⟩ := old q2 o2 _ g2 g4
    have := h.heap.inj p1 p2 x1 x2 b c1 k1 c2 k2 a1 (a5 ▸ l1) b1 (b5 ▸ l2) a2 b2
    omega
   ·obtain ⟨q', o0, a1, a2, _, _, a5, a6⟩ := old q o _ g1 g2
    rw [a6]
    exact h.heap.own q' o0 b c k i a1 (a5 ▸ l1) a2
   ·refine ⟨hE.keeps, fun r x hx => hb r x (by have := yE hx; omega) (hE.pre r x hx), hE.size, hE.rest, fun r b c k hr => ?_, hE.os, hE.tape, hE.output, hE.drawn, hE.stay⟩
    rw [hget] at hr
    split at hr
    ·exact hE.fresh _ b c k hr
    ·exact hE.fresh _ b c k hr
  ·exact ⟨β, h, fun S0 β0 w0 _ hE => hE⟩
 ·exact ⟨β, h, fun S0 β0 w0 _ hE => hE⟩
theorem moveS_length (σ : St) (s : Nat) : (Abs.moveS σ s).heap.length = σ.heap.length + 1 := by
 unfold Abs.moveS Abs.moveT Abs.moveC Abs.padS
 repeat' split
 all_goals simp
theorem moves_length : ∀ (acc : List Nat) (σ : St), (acc.foldl Abs.moveS σ).heap.length = σ.heap.length + acc.length
 | [], σ => rfl
 | s :: acc, σ => by simp only [List.foldl_cons, List.length_cons]; rw [moves_length acc, moveS_length]; omega
theorem Inv.squash (h : Inv S β σ a w) (keep acc : List Nat) (hL : L ≤ σ.heap.length) :
  ∃ β', Inv S β' (squash keep acc L σ) a w ∧ ∀ (S0 : Nat → Nat → Prop) (β0 : Blocks) (w0 : World), β0.length = L → Ext DR S0 β0 w0 S β w → Ext DR S0 β0 w0 S β' w := by
 unfold Abs.squash
 split
 ·exact ⟨β, h, fun _ _ _ _ h => h⟩
 ·obtain ⟨β1, h1, e1⟩ := h.moves acc
  obtain ⟨β2, h2, e2⟩ := h1.cutS keep hL (by rw [moves_length]; omega)
  exact ⟨β2, h2, fun S0 β0 w0 hl hE => e2 S0 β0 w0 hl (hE.trans e1)⟩
theorem Ext.le {S' : Nat → Nat → Prop} {w' : World} (h : Ext DR S β w S' β' w') : β.length ≤ β'.length := by
 rcases Nat.lt_or_ge β'.length β.length with hlt | hge
 ·exfalso
  have h1 := zA (l := β) (i := β'.length) hlt
  have h2 := h.pre _ _ h1
  rw [zS (zL _)] at h2
  cases h2
 ·exact hge
variable {DR : Prop}
def AExit.to : AExit → Exit
 | .normal => .normal
 | .exit id => .exit id
 | .ret => .ret
def Ends (DR : Prop) (S : Nat → Nat → Prop) (β : Blocks) (w : World) (e : AExit) (σ : St) : Exit → Act → World → Prop :=
 fun ex a' w' => ex = e.to ∧ ∃ S' β', Inv S' β' σ a' w' ∧ Ext DR S β w S' β' w'
variable {S : Nat → Nat → Prop} {a : Act} {e : AExit} {ex : Exit} {w w' : World} {β : Blocks} {σ : St}
theorem Ends.ext {S1 : Nat → Nat → Prop} {β1 : Blocks} {w1 : World} (hE : Ext DR S β w S1 β1 w1) (h : Ends DR S1 β1 w1 e σ ex a w') : Ends DR S β w e σ ex a w' :=
 let ⟨h1, S', β', h2, h3⟩ := h
 ⟨h1, S', β', h2, hE.trans h3⟩
theorem Inv.forget (h : Inv S β σ a w) (keep : List Nat) : Inv S β (forget keep σ) a w := by
 refine ⟨by simp [Abs.forget, h.size], fun i v d h1 h2 => ?_, h.heap, h.defers⟩
 simp only [Abs.forget, List.getElem?_mapIdx] at h2
 obtain ⟨x, hx, rfl⟩ := zB.1 h2
 split
 ·exact h.tmps i v x h1 hx
 ·exact .undef _
variable {P : Program}
theorem aloop_sound {c : Code} {keep acc : List Nat} {L : Nat} {body : St → Option (AExit × St)} (hb : ∀ σ e σ', body σ = some (e, σ') → ∀ S β a w, Inv S β σ a w → c.wp P (Ends DR S β w e σ') a w) (n : Nat) (σ : St) (e : AExit) (σ' : St)
  (h : aloop keep acc L body n σ = some (e, σ')) (S : Nat → Nat → Prop) (β : Blocks) (hβ : β.length = L) (w0 : World) (S1 : Nat → Nat → Prop) (β1 : Blocks) (a : Act) (w : World) (hI : Inv S1 β1 σ a w) (hE : Ext DR S β w0 S1 β1 w) : (Code.loop c).wp P (Ends DR S β w0 e σ') a w := by
 refine wp_loop_ghost (fun n a' w' => ∃ σ1 S1 β1, aloop keep acc L body n σ1 = some (e, σ') ∧ Inv S1 β1 σ1 a' w' ∧ Ext DR S β w0 S1 β1 w') n ⟨σ, S1, β1, h, hI, hE⟩ ?_
 rintro m a' w' ⟨σ1, S1, β1, h1, hI1, hE1⟩
 cases m with
 | zero => simp [aloop] at h1
 | succ m =>
  simp only [aloop] at h1
  split at h1
  ·rename_i σ2 h2
   refine wp_mono (hb σ1 _ _ h2 S1 β1 a' w' hI1) ?_
   rintro ex a2 w2 ⟨rfl, S2, β2, hI2, hE2⟩
   have hE3 := hE1.trans hE2
   have hL : L ≤ (forget keep σ2).heap.length := by
    have h3 := hE3.le
    have h4 := hI2.heap.len
    show L ≤ σ2.heap.length
    omega
   obtain ⟨β3, hI3, hE4⟩ := (hI2.forget keep).squash keep acc hL
   exact ⟨m, om, _, S2, β3, h1, hI3, hE4 S β w0 hβ hE3⟩
  ·rename_i e2 σ2 hne h2
   obtain ⟨rfl, rfl⟩ := zM (zC h1)
   refine wp_mono (hb σ1 _ _ h2 S1 β1 a' w' hI1) ?_
   rintro ex a2 w2 ⟨rfl, S2, β2, hI2, hE2⟩
   cases e2 with
   | normal => exact (hne rfl).elim
   | exit id => exact ⟨rfl, S2, β2, hI2.forget keep, hE1.trans hE2⟩
   | ret => exact ⟨rfl, S2, β2, hI2.forget keep, hE1.trans hE2⟩
  ·cases h1
theorem Ends.squash {σ0 σ' : St} {a0 : Act} (hI : Inv S β σ0 a0 w) (keep acc : List Nat) (h : Ends DR S β w e σ' ex a w') : Ends DR S β w e (Abs.squash keep acc σ0.heap.length σ') ex a w' := by
 obtain ⟨h1, S', β', h2, h3⟩ := h
 have hL : σ0.heap.length ≤ σ'.heap.length := by
  have h4 := h3.le
  have h5 := h2.heap.len
  have h6 := hI.heap.len
  omega
 obtain ⟨β2, h4, h5⟩ := h2.squash keep acc hL
 exact ⟨h1, S', β2, h4, h5 S β w hI.heap.len h3⟩
theorem aeval_sound {E : Env} {Γ : Calling} (hm : P.follows .mixedOrders = true) (hT : ∀ t i, E.T t = some i → tiOf P t = some i) (hΓ : CSound DR P Γ) (keep : Keep) (acc : List Nat) (n : Nat) : ∀ (c : Code) (σ : St) (e : AExit) (σ' : St),
  aeval E Γ keep acc n c σ = some (e, σ') → ∀ S β a w, Inv S β σ a w → c.wp P (Ends DR S β w e σ') a w := by
 intro c
 induction c with
 | skip =>
  intro σ e σ' h S β a w hI
  simp only [aeval, Option.some.injEq, Prod.mk.injEq] at h
  obtain ⟨rfl, rfl⟩ := h
  exact wp_skip ⟨rfl, S, β, hI, Ext.refl _ _ _⟩
 | region id ops draw =>
  intro σ e σ' h S β a w hI
  simp only [aeval] at h
  have hI' : Inv S β σ a w.drew := ⟨hI.size, fun i v d g1 g2 => (hI.tmps i v d g1 g2).mono (w := w) (w' := w.drew) (fun _ _ h => ⟨h, rfl⟩) (fun _ _ h => h), hI.heap.drew, hI.defers⟩
  split at h
  ·rename_i hd
   rw [Bool.and_eq_true] at hd
   obtain ⟨rfl, _⟩ := hd
   obtain ⟨σ1, h1, h2⟩ := zB.1 h
   obtain ⟨rfl, rfl⟩ := zM h2
   cases h1
  ·rename_i hd
   split at h
   ·rename_i σ1 h1
    obtain ⟨rfl, rfl⟩ := zM (zC h)
    have hidx : aidx E Γ ops (List.range ops.size) σ = some σ1 := by
     rw [List.range_eq_range', ← Array.length_toList, aidx_range ops.toList 0 σ (fun q o hq => by simpa using hq)]
     exact h1
    cases draw with
    | false => exact wp_region (step_sound hT hΓ _ hI hidx (fun S' β' a' w' hI' hE' => ⟨rfl, S', β', hI', hE'⟩))
    | true =>
     refine wp_region_any hm ?_
     by_cases hof : orderFree E ops = true
     case neg =>
      by_cases hfar : farOk E ops σ = true
      ·exact far_sound hT hΓ hfar _ _ _ (by simp) (rem_start ops) hI' hidx (fun S' β' a' w' hI'' hE' => ⟨rfl, S', β', hI'', (Ext.drew S β w).trans hE'⟩)
      have hlt : lateOk E ops = true := by
       have h1 : orderFree E ops = false := by simpa using hof
       have h2 : farOk E ops σ = false := by simpa using hfar
       rw [h1, h2] at hd
       simpa using hd
      cases hlt
     refine any_sound hT hΓ hof _ _ _ (by simp) (rem_start ops) hI' hidx (fun S' β' a' w' hI'' hE' => ⟨rfl, S', β', hI'', (Ext.drew S β w).trans hE'⟩)
   ·cases h
 | seq x y ihx ihy =>
  intro σ e σ' h S β a w hI
  simp only [aeval] at h
  split at h
  ·rename_i σ1 h1
   refine wp_seq (wp_mono (ihx σ _ _ h1 S β a w hI) ?_)
   rintro ex a1 w1 ⟨rfl, S1, β1, hI1, hE1⟩
   exact wp_mono (ihy σ1 e σ' h S1 β1 a1 w1 hI1) (fun ex a2 w2 hh => hh.ext hE1)
  ·rename_i r hne
   refine wp_seq (wp_mono (ihx σ e σ' h S β a w hI) ?_)
   rintro ex a1 w1 ⟨rfl, hh⟩
   cases e with
   | normal => exact absurd h (hne σ')
   | exit id => exact ⟨rfl, hh⟩
   | ret => exact ⟨rfl, hh⟩
 | cond c x y ihx ihy =>
  intro σ e σ' h S β a w hI
  simp only [aeval] at h
  have hc := hI.ev c
  split at h
  ·rename_i b hv
   rw [hv] at hc
   have hc' : a.eval c = .bool b := by
    generalize a.eval c = v at hc
    cases hc.of_v; rfl
   -- one branch
   have one : ∀ (z : Code), (∀ e σ', aeval E Γ keep acc n z σ = some (e, σ') → z.wp P (Ends DR S β w e σ') a w) → (match aeval E Γ keep acc n z σ with
     | some (.normal, σ') => some (AExit.normal, squash (keep.cond (okey c)) acc σ.heap.length σ')
     | r => r) = some (e, σ') → z.wp P (Ends DR S β w e σ') a w := by
    intro z hz h
    split at h
    ·rename_i σ1 h1
     obtain ⟨rfl, rfl⟩ := zM (zC h)
     exact wp_mono (hz _ _ h1) (fun ex a2 w2 hh => Ends.squash hI (keep.cond (okey c)) acc hh)
    ·exact hz _ _ h
   cases b with
   | true => exact wp_cond_true hc' (one x (fun e σ' h => ihx σ e σ' h S β a w hI) h)
   | false => exact wp_cond_false hc' (one y (fun e σ' h => ihy σ e σ' h S β a w hI) h)
  ·cases h
 | block id c ih =>
  intro σ e σ' h S β a w hI
  simp only [aeval] at h
  split at h
  ·rename_i id' σ1 h1
   refine wp_block (wp_mono (ih σ _ _ h1 S β a w hI) ?_)
   rintro ex a1 w1 ⟨rfl, hh⟩
   split at h
   ·rename_i hid
    obtain ⟨rfl, rfl⟩ := zM (zC h)
    simp only [AExit.to, Exit.inBlock, hid, if_true]
    exact Ends.squash hI (keep.blk id) acc ⟨rfl, hh⟩
   ·rename_i hid
    obtain ⟨rfl, rfl⟩ := zM (zC h)
    simp only [AExit.to, Exit.inBlock, hid, if_false]
    exact ⟨rfl, hh⟩
  ·rename_i σ1 h1
   obtain ⟨rfl, rfl⟩ := zM (zC h)
   refine wp_block (wp_mono (ih σ _ _ h1 S β a w hI) ?_)
   rintro ex a1 w1 ⟨rfl, hh⟩
   exact Ends.squash hI (keep.blk id) acc ⟨rfl, hh⟩
  ·rename_i r hne hne2
   refine wp_block (wp_mono (ih σ e σ' h S β a w hI) ?_)
   rintro ex a1 w1 ⟨rfl, hh⟩
   cases e with
   | normal => exact absurd h (hne2 σ')
   | exit id' => exact absurd h (hne id' σ')
   | ret => exact ⟨rfl, hh⟩
 | loop c ih =>
  intro σ e σ' h S β a w hI
  simp only [aeval] at h
  obtain ⟨β1, hI1, hE1⟩ := (hI.forget (keep.loop (ckey c))).squash (keep.loop (ckey c)) acc (L := σ.heap.length) (zL _)
  exact aloop_sound (fun σ e σ' hh => ih σ e σ' hh) n _ e σ' h S β hI.heap.len w S β1 a w hI1 (hE1 S β w hI.heap.len (Ext.refl _ _ _))
 | exit id =>
  intro σ e σ' h S β a w hI
  simp only [aeval, Option.some.injEq, Prod.mk.injEq] at h
  obtain ⟨rfl, rfl⟩ := h
  exact wp_exit ⟨rfl, S, β, hI, Ext.refl _ _ _⟩
 | ret =>
  intro σ e σ' h S β a w hI
  simp only [aeval, Option.some.injEq, Prod.mk.injEq] at h
  obtain ⟨rfl, rfl⟩ := h
  exact wp_ret ⟨rfl, S, β, hI, Ext.refl _ _ _⟩
 | _ => intro σ e σ' h; simp [aeval] at h
def oneResult (tmps : Array Value) : ResultVar → Sem Value
 | .tmp t => pure (tmps.getD t undef)
 | .cell x t => do loadVar t (← asAddr (tmps.getD x undef))
theorem resultD_sound {P : Program} {T : Nat → Option TI} (hT : ∀ t i, T t = some i → tiOf P t = some i) {S : Nat → Nat → Prop} {β : Blocks} {σ : St} {a : Act} {w : World} (hI : Inv S β σ a w) : ∀ (rs : List ResultVar) (ds : List D), allM (resultD T σ) rs = some ds →
  ∃ vs : List Value, (rs.mapM (oneResult a.tmps)).run P w = .ok vs w ∧ vs.length = ds.length ∧ ∀ (i : Nat) v d, vs[i]? = some v → ds[i]? = some d → RelD S β w v d
 | [], ds, h => by simp [allM] at h; subst h; exact ⟨[], rfl, rfl, fun i v d h => by simp at h⟩
 | r :: rs, ds, h => by
  simp only [allM] at h
  split at h
  ·rename_i d ds' hd hds
   cases h
   obtain ⟨vs, h1, h2, h3⟩ := resultD_sound hT hI rs ds' hds
   have one : ∃ v, (oneResult a.tmps r).run P w = .ok v w ∧ RelD S β w v d := by
    cases r with
    | tmp t =>
     simp only [resultD, Option.some.injEq] at hd
     subst hd
     exact ⟨_, rfl, hI.ev (.tmp t)⟩
    | cell x t =>
     simp only [resultD] at hd
     split at hd
     ·rename_i i hi
      obtain ⟨u, h4, h5⟩ := loadD_sound hI.heap (hT _ _ hi) hd (hI.ev (.tmp x))
      refine ⟨u, ?_, h5⟩
      have hp : ∃ ad, a.tmps.getD x undef = .pointer (some ad) := by
       have hx := hI.ev (.tmp x)
       simp only [Act.eval] at hx
       generalize a.tmps.getD x undef = v at hx
       simp only [St.ev] at hx
       generalize σ.tmps.getD x D.undef = p at hx hd
       cases hx <;> first | exact ⟨_, rfl⟩ | (simp [loadD] at hd; done) | skip
       rename_i y hy
       cases y <;> first | (simp [loadD] at hd; done) | (cases hy; exact ⟨_, rfl⟩)
      obtain ⟨ad, had⟩ := hp
      simp only [Act.eval, had, Instr.loadAt, Instr.sureAddr, Sem.run_bind, Sem.run_pure, Result.andThen_ok] at h4
      simp only [oneResult, had, asAddr, Sem.run_bind, Sem.run_pure, Result.andThen_ok]
      exact h4
     ·cases hd
   obtain ⟨v, h4, h5⟩ := one
   refine ⟨v :: vs, ?_, by simp [h2], fun i u x hu hx => ?_⟩
   ·simp only [List.mapM_cons, Sem.run_bind, h4, h1, Result.andThen_ok, Sem.run_pure]
   ·cases i with
    | zero => simp at hu hx; subst hu; subst hx; exact h5
    | succ i => simp at hu hx; exact h3 i u x hu hx
  ·cases h
theorem resultsD_sound {T : Nat → Option TI} (hT : ∀ t i, T t = some i → tiOf P t = some i) (hI : Inv S β σ a w) {fn : Func} {d : D} (h : resultsD T σ fn.results.toList = some d) :
  ∃ v, (results fn a.tmps).run P w = .ok v w ∧ RelD S β w v d := by
 have hrun : ∀ vs : List Value, (fn.results.toList.mapM (oneResult a.tmps)).run P w = .ok vs w → (results fn a.tmps).run P w = .ok (if h : vs.toArray.size = 1 then vs.toArray[0] else .tuple vs.toArray) w := by
  intro vs hvs
  unfold results
  rw [Array.mapM_eq_mapM_toList]
  simp only [Sem.run_bind, Sem.run_map]
  have : ∀ (f g : ResultVar → Sem Value), f = g → (fn.results.toList.mapM f) = fn.results.toList.mapM g := fun f g e => by rw [e]
  rw [this _ (oneResult a.tmps) (by funext x; cases x <;> rfl), hvs]
  rfl
 unfold resultsD at h
 split at h
 ·rename_i d0 hds
  cases h
  obtain ⟨vs, h1, h2, h3⟩ := resultD_sound hT hI _ _ hds
  match vs, h2 with
  | [v], _ =>
   exact ⟨v, by rw [hrun [v] h1]; rfl, h3 0 v d rfl rfl⟩
 ·rename_i ds hne hds
  cases h
  obtain ⟨vs, h1, h2, h3⟩ := resultD_sound hT hI _ _ hds
  refine ⟨.tuple vs.toArray, ?_, rel_mkTuple (by simpa using h2) (fun i v d hv hd => h3 i v d (by simpa using hv) hd)⟩
  rw [hrun vs h1]
  have : ¬ vs.toArray.size = 1 := by
   intro h1
   have h1' : vs.length = 1 := by simpa using h1
   match ds, h2, hne with
   | [d], _, hne => exact hne d rfl
   | [], h, _ => have h' : vs.length = 0 := h; omega
   | _ :: _ :: l, h, _ => have h' : vs.length = l.length + 1 + 1 := h; omega
  rw [dif_neg this]
 ·cases h
def OSound (DR : Prop) (P : Program) (E : Env) : Prop := ∀ f F, E.ora f = some F → Is P f ∧ ∀ vs r, F vs = some r → ∀ S w us, RelL S [] w us (vs.map .v) → (∀ b i, S b i → b < w.heap.size) → Glob S w →
 Calls P f us w fun e w' => ∃ v S', e = .returned v ∧ Ext DR S [] w S' [] w' ∧ HInv S' [] w' [] ∧ RelV S' w' v r
def DSound (DR : Prop) (P : Program) (E : Env) : Prop := ∀ f F, E.oraD f = some F → Is P f ∧ ∀ ds h d h', F ds h = some (d, h') → ∀ S β w vs, RelL S β w vs ds → HInv S β w h →
 Calls P f vs w fun e w' => ∃ v S' β', e = .returned v ∧ Ext DR S β w S' β' w' ∧ HInv S' β' w' h' ∧ RelD S' β' w' v d
structure Good (DR : Prop) (P : Program) (E : Env) : Prop where
 mixed : P.follows .mixedOrders = true
 types : ∀ t i, E.T t = some i → tiOf P t = some i
 names : ∀ (f : Nat) fn, P.funcs[f]? = some fn → (fn.name == "runtime.NumGoroutine") = false
 ora : OSound DR P E
 oraD : DSound DR P E
theorem run_sound {E : Env} (hG : Good DR P E) : ∀ n, CSound DR P (run P E n) := by
 intro n
 induction n with
 | zero => intro f ds h d h' hd; simp [run] at hd
 | succ n ih =>
  intro f ds h d h' hd
  simp only [run] at hd
  split at hd
  ·cases hd
  ·rename_i fn hfn
   split at hd
   ·rename_i F hF
    obtain ⟨hex, hc⟩ := hG.oraD f F hF
    exact ⟨hex, fun S β w vs hrel hi => hc ds h d h' hd S β w vs hrel hi⟩
   split at hd
   ·rename_i F hF
    split at hd
    ·rename_i vs hvs
     obtain ⟨r, hr, he⟩ := zB.1 hd
     obtain ⟨rfl, rfl⟩ := zM he
     obtain ⟨hex, ho⟩ := hG.ora f F hF
     refine ⟨hex, fun S β w us hrel hi => ?_⟩
     have hvs' := pures_spec hvs
     have hrel' : RelL S [] w us (vs.map .v) := by
      rw [← hvs']
      refine ⟨by simpa using hrel.1, fun i v d h1 h2 => ?_⟩
      have h2' := h2
      rw [hvs', zG] at h2'
      obtain ⟨x, hx, rfl⟩ := zB.1 h2'
      rw [zG] at h2
      obtain ⟨y, hy, hyx⟩ := zB.1 h2
      have := (hrel.2 i v y h1 hy).unt
      rw [hyx] at this
      exact .v _ _ this.of_v
     refine (ho vs r hr S w us hrel' hi.sb hi.gl).mono ?_
     rintro e w1 ⟨v, S1, rfl, hE, hI, hR⟩
     have hin : ∀ b i, S1 b i → S b i ∨ w.heap.size ≤ b := by
      intro b i hs
      rcases hE.stay b i hs with g | g | ⟨r, c, k, g⟩
      ·exact .inl g
      ·exact .inr g
      ·simp at g
     obtain ⟨e1, e2⟩ := back_from (S' := S1) (h1 := []) hi hE (fun _ _ h => h) (fun b i hs => (hE.keeps b i hs).1) hin hI.sb
     exact ⟨v, S1, β, rfl, e1, e2, .v _ _ hR⟩
    ·cases hd
   ·split at hd
    ·cases hd
    ·rename_i c hc
     refine ⟨⟨fn, hfn, by rw [hc]; rfl, hG.names f fn hfn⟩, fun S β w us hrel hi => ?_⟩
     have hstart : Inv S β ⟨ds ++ List.replicate (fn.ntmps - ds.length) U, h⟩ { tmps := us ++ Array.replicate (fn.ntmps - us.size) undef, defers := [] } w := by
      refine ⟨by simp [hrel.1], fun i v d h1 h2 => ?_, hi, rfl⟩
      rw [Array.getElem?_append] at h1
      simp only [List.getElem?_append] at h2
      split at h1
      ·rename_i hlt
       rw [if_pos (by rw [← hrel.1]; exact hlt)] at h2
       exact hrel.2 i v d h1 h2
      ·rename_i hlt
       rw [if_neg (by rw [← hrel.1]; exact hlt)] at h2
       have e1 := (Array.mem_replicate.1 (Array.mem_of_getElem? h1)).2
       have e2 := (List.mem_replicate.1 (zE h2)).2
       subst e1 e2
       exact .v _ _ (.tuple _ _ rfl (fun i v x hv => by simp at hv))
     have fin : ∀ (e : AExit) (σ : St), aeval { E with rowM := E.rowF f, untS := E.untF f } (run P E n) (E.keep f) (E.acc f) n c ⟨ds ++ List.replicate (fn.ntmps - ds.length) U, h⟩ = some (e, σ) → (e = .normal ∨ e = .ret) → (resultsD E.T σ fn.results.toList).map (·, σ.heap) = some (d, h') →
       Calls P f us w fun e w' => ∃ v S' β', e = .returned v ∧ Ext DR S β w S' β' w' ∧ HInv S' β' w' h' ∧ RelD S' β' w' v d := by
      intro e σ h1 he h2
      obtain ⟨r, hr, he2⟩ := zB.1 h2
      obtain ⟨rfl, rfl⟩ := zM he2
      refine calls_of_wp hfn hc (wp_mono (aeval_sound (E := { E with rowM := E.rowF f, untS := E.untF f }) hG.mixed hG.types ih _ _ n c _ e σ h1 S β _ w hstart) ?_)
      rintro ex a' w' ⟨rfl, S', β', hI', hE'⟩
      obtain ⟨v, h3, h4⟩ := resultsD_sound hG.types hI' hr
      rcases he with rfl | rfl
      ·exact ⟨hI'.defers, v, h3, v, S', β', rfl, hE', hI'.heap, h4⟩
      ·exact ⟨hI'.defers, v, h3, v, S', β', rfl, hE', hI'.heap, h4⟩
     split at hd
     ·rename_i σ h1; exact fin _ σ h1 (.inl rfl) hd
     ·rename_i σ h1; exact fin _ σ h1 (.inr rfl) hd
     ·cases hd
theorem runV_sound {E : Env} (hG : Good DR P E) {n : Nat} {f : FuncId} {xs : List V} {r : V} (h : runV P E n f xs = some r) {vs : Array Value} (hS : ∀ b i, S b i → b < w.heap.size) (hgl : Glob S w)
  (hv : RelL S [] w vs (xs.map .v)) : Calls P f vs w fun e w' => ∃ v S', e = .returned v ∧ RelV S' w' v r ∧ RowKit.Below w.heap.size w w' ∧ Keeps S w S' w' := by
 unfold runV at h
 split at h
 ·rename_i d h' hrun
  refine ((run_sound hG n f _ [] d h' hrun).2 S [] w vs hv (hinv_nil hS hgl)).mono ?_
  rintro e w' ⟨v, S', β', rfl, hE, hI, hR⟩
  refine ⟨v, _, rfl, frz_sound hI 6 _ _ _ h hR, ⟨hE.os, hE.tape, hE.output, hE.size, fun k hk => hE.rest k hk (fun r c q hr => by simp at hr)⟩, fun b i hs => ⟨.inl (hE.keeps b i hs).1, (hE.keeps b i hs).2⟩⟩
 ·cases h
end Go.Abs
