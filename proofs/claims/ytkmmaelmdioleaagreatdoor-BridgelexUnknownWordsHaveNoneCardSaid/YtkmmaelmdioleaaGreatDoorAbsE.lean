import Derived.Test.YtkmmaelmdioleaaGreatDoorAbsC
import Derived.Laws.Cover1
namespace Go.Abs
set_option linter.unusedVariables false
set_option linter.unusedSimpArgs false
set_option linter.unnecessarySimpa false
variable {DR : Prop}
section
variable {P : Program} {o : Oper} {a : Act} {w w' : World} {K : Act → World → Prop} {Q : Exit → Act → World → Prop}
theorem wp_of_value {v : Value} (h : (execOp a.eval o).run P w = .ok (.value v) w') (hk : K (a.put o.dst v) w') : o.wp P a w K Q := by
 unfold Oper.wp
 rw [h]
 exact hk
theorem wp_of_skip (h : (execOp a.eval o).run P w = .ok .skip w') (hk : K (a.put o.dst undef) w') : o.wp P a w K Q := by
 unfold Oper.wp
 rw [h]
 exact hk
theorem wp_of_enter {f : FuncId} {args : Array Value} (h : (execOp a.eval o).run P w = .ok (.enter f args) w') {R : Value → World → Prop}
  (hc : Calls P f args w' fun e w'' => ∃ v, e = .returned v ∧ R v w'') (hk : ∀ v w'', R v w'' → K (a.put o.dst v) w'') : o.wp P a w K Q := by
 unfold Oper.wp
 rw [h, Oper.upon_enter]
 refine hc.mono ?_
 rintro e w'' ⟨v, rfl, hR⟩
 exact hk v w'' hR
end
theorem size_two {α : Type} {x : Array α} (h : x.size = 2) : ∃ a b, x = #[a, b] := by
 obtain ⟨l⟩ := x
 match l, h with
 | [a, b], _ => exact ⟨a, b, rfl⟩
theorem size_three {α : Type} {x : Array α} (h : x.size = 3) : ∃ a b c, x = #[a, b, c] := by
 obtain ⟨l⟩ := x
 match l, h with
 | [a, b, c], _ => exact ⟨a, b, c, rfl⟩
theorem relO_map {S : Nat → Nat → Prop} {β : Blocks} {w : World} {a : Act} {ρ : Operand → D} (hρ : ∀ x, RelD S β w (a.eval x) (ρ x)) (x : Option Operand) : RelO S β w (x.map a.eval) (x.map ρ) := by
 cases x with
 | none => trivial
 | some x => exact hρ x
theorem relL_map {S : Nat → Nat → Prop} {β : Blocks} {w : World} {a : Act} {ρ : Operand → D} (hρ : ∀ x, RelD S β w (a.eval x) (ρ x)) (xs : Array Operand) : RelL S β w (xs.map a.eval) (argsD ρ xs.toList) := by
 refine ⟨by simp [argsD], fun i v d hv hd => ?_⟩
 rw [Array.getElem?_map] at hv
 simp only [argsD, List.getElem?_map] at hd
 obtain ⟨x, hx, rfl⟩ := Option.map_eq_some_iff.1 hv
 obtain ⟨y, hy, rfl⟩ := Option.map_eq_some_iff.1 hd
 have : x = y := by
  have h1 : xs.toList[i]? = some x := by simpa using hx
  rw [h1] at hy; exact Option.some.inj hy
 subst this
 exact hρ x
theorem relL_append {S : Nat → Nat → Prop} {β : Blocks} {w : World} {a b : Array Value} {as bs : List D} (h : RelL S β w a as) (g : RelL S β w b bs) : RelL S β w (a ++ b) (as ++ bs) := by
 refine ⟨by simp [h.1, g.1], fun i v d hv hd => ?_⟩
 rw [Array.getElem?_append] at hv
 rw [List.getElem?_append] at hd
 split at hv
 ·rename_i hlt
  rw [if_pos (by rw [← h.1]; exact hlt)] at hd
  exact h.2 i v d hv hd
 ·rename_i hlt
  rw [if_neg (by rw [← h.1]; exact hlt), ← h.1] at hd
  exact g.2 _ v d hv hd
theorem run_callFunc {P : Program} {f : FuncId} (h : Is P f) (args : Array Value) (w : World) : (callFunc f args).run P w = .ok (.enter f args) w := by
 obtain ⟨fn, h1, h2, h3⟩ := h
 unfold callFunc
 simp only [Sem.run_bind, run_program, Result.andThen_ok, h1, h3, Bool.false_eq_true, if_false]
 have : fn.body.isNone = false := by cases hb : fn.body <;> simp_all
 simp only [this, Bool.false_eq_true, if_false, Sem.run_pure]
theorem sliceD_nil {T : Nat → Option TI} {h : List AObj} {t : Nat} {x d : D} {lo hi mx : Option D} (hd : sliceD T [] t x lo hi mx = some d) : sliceD T h t x lo hi mx = some d := by
 unfold sliceD at hd ⊢
 split at hd
 ·cases hd
 ·rename_i ti hti
  split at hd
  ·exact hd
  ·exact hd
  ·rename_i e r off len full hk
   split at hd
   ·rename_i l h' m k hb hs
    have : shapeOk [] r k = false := rfl
    rw [this] at hd
    cases hd
   ·cases hd
  ·split at hd
   ·simp at hd
   ·cases hd
  ·cases hd
theorem cloOf_sound {S : Nat → Nat → Prop} {β : Blocks} {w : World} {v : Value} {d : D} {f : FuncId} {x1 x2 : List D} (h : cloOf d = some (f, x1, x2)) (hv : RelD S β w v d) :
  ∃ first captured, v = .func (.func f) first captured ∧ RelL S β w first x1 ∧ RelL S β w captured x2 := by
 have nilL : RelL S β w #[] [] := ⟨rfl, fun i v d hv => by simp at hv⟩
 unfold cloOf at h
 split at h
 ·cases h
  cases hv.of_v
  exact ⟨#[], #[], rfl, nilL, nilL⟩
 ·rename_i g caps
  cases h
  cases hv.of_v with
  | clo _ captured _ q hl hp hc hs hr =>
  refine ⟨#[], captured, rfl, nilL, by simpa using hl, fun i v d hv hd => ?_⟩
  rw [List.getElem?_map] at hd
  obtain ⟨x, hx, rfl⟩ := Option.map_eq_some_iff.1 hd
  have hlt := lt_of_getElem? hx
  have h1 := hp i v hv
  have h2 := hc i x hx
  subst h1
  subst h2
  exact .vptr _ _ _ (q i).2.2.2 (fun j hj => hs i j hlt hj) (fun j y hy => hr i j y hlt hy)
 ·cases h
  cases hv with
  | func _ first captured _ _ hl hl' hr hr' => exact ⟨first, captured, rfl, ⟨hl, hr⟩, ⟨hl', hr'⟩⟩
 ·cases h
theorem load_addr {S : Nat → Nat → Prop} {β : Blocks} {w : World} {h : List AObj} {i : TI} {p d : D} (hd : loadD i h p = some d) {v : Value} (hv : RelD S β w v p) : ∃ a : Addr, v = .pointer (some a) := by
 cases hv with
 | v _ x hx => cases x <;> first | (simp [loadD] at hd; done) | (cases hx; exact ⟨_, rfl⟩)
 | ptr r off b c k hb => exact ⟨_, rfl⟩
 | eptr r i off b c k p hb hp => exact ⟨_, rfl⟩
 | vptr b off cells vals hs hr => exact ⟨_, rfl⟩
 | _ => simp [loadD] at hd
theorem methD_sound {P : Program} {T : Nat → Option TI} (hT : ∀ t i, T t = some i → tiOf P t = some i) {S : Nat → Nat → Prop} {β : Blocks} {w : World} {h : List AObj} (hi : HInv S β w h) {t : Nat} {d x : D} {name : String} {f : FuncId}
  (hm : methD T h t d name = some (f, x)) {v : Value} (hv : RelD S β w v d) : ∃ u, (method (P.types.size + Made.depth) t v name).run P w = .ok (f, u) w ∧ RelD S β w u x := by
 unfold methD at hm
 split at hm
 case h_2 => cases hm
 rename_i i hti
 split at hm
 case h_2 => cases hm
 rename_i nm f0 pr hfind
 obtain ⟨info, hinfo, hms⟩ := tiOf_meths (hT _ _ hti)
 obtain ⟨_, desc, z, _, g2, _, _, g5, g6, _⟩ := tiOf_spec (hT _ _ hti)
 rw [hms, List.find?_map] at hfind
 obtain ⟨m, hm1, hm2⟩ := Option.map_eq_some_iff.1 hfind
 have hfa : info.methods.find? (·.name == name) = some m := by
  rw [← Array.find?_toList]; exact hm1
 have hpath : m.path.isEmpty = true ∧ m.func = some (f0, pr) := by
  by_cases hp : m.path.isEmpty = true
  ·rw [if_pos hp] at hm2
   exact ⟨hp, (Prod.mk.inj hm2).2⟩
  ·rw [if_neg hp] at hm2
   have := (Prod.mk.inj hm2).2
   cases this
 have hpl : m.path.toList = [] := by
  have := hpath.1
  rw [Array.isEmpty_iff] at this
  rw [this]
 have hmd : 1 ≤ Made.depth := by decide
 obtain ⟨k, hk⟩ : ∃ k, P.types.size + Made.depth = k + 1 := ⟨P.types.size + (Made.depth - 1), by omega⟩
 have fin : ∀ (u : Value), (receiverAt t (.val v) pr (some ((name.splitOn ".").getLastD name))).run P w = .ok u w → (method (P.types.size + Made.depth) t v name).run P w = .ok (f0, u) w := by
  intro u hu
  rw [hk]
  unfold method
  simp only [Sem.run_bind, run_typeInfo hinfo, Result.andThen_ok, hfa, hpl, follow, Sem.run_pure, hpath.2, hpath.1, if_true, hu]
 have plain : (∀ e, desc ≠ .pointer e) → pr = false → d = x → f0 = f → ∃ u, (method (P.types.size + Made.depth) t v name).run P w = .ok (f, u) w ∧ RelD S β w u x := by
  rintro hnp rfl rfl rfl
  refine ⟨v, fin v ?_, hv⟩
  unfold receiverAt
  simp only [Sem.run_bind, run_underlying g2, Result.andThen_ok]
  cases desc <;> first | rfl | exact absurd rfl (hnp _)
 cases hkd : i.kind with
 | ptr e =>
  rw [hkd] at hm g5
  rw [tkOf_ptr g5] at g2
  cases pr with
  | true =>
   obtain ⟨rfl, rfl⟩ := Prod.mk.inj (Option.some.inj hm)
   refine ⟨v, fin v ?_, hv⟩
   unfold receiverAt
   simp only [Sem.run_bind, run_underlying g2, Result.andThen_ok]
   rfl
  | false =>
   simp only at hm
   split at hm
   case h_2 => cases hm
   rename_i ie hte
   obtain ⟨x', hl, he⟩ := Option.map_eq_some_iff.1 hm
   obtain ⟨rfl, rfl⟩ := Prod.mk.inj he
   obtain ⟨a, rfl⟩ := load_addr hl hv
   obtain ⟨u, hu, hru⟩ := loadD_sound hi (hT _ _ hte) hl hv
   refine ⟨u, fin u ?_, hru⟩
   have hu : (loadVar e a).run P w = .ok u w := by
    have e1 : (Instr.loadAt e (.pointer (some a))).run P w = (loadVar e a).run P w := rfl
    rw [← e1]; exact hu
   unfold receiverAt
   simp only [Sem.run_bind, run_underlying g2, Result.andThen_ok]
   show (do
    let ptr ← (Builtin.ssaWrapNilChk_ #[t] t #[.pointer (some a), strVal "", strVal ((name.splitOn ".").getLastD name)])
    loadVar e (← asAddr ptr) : Sem Value).run P w = .ok u w
   simp only [Sem.run_bind, show (Builtin.ssaWrapNilChk_ #[t] t #[.pointer (some a), strVal "", strVal ((name.splitOn ".").getLastD name)]).run P w = .ok (.pointer (some a)) w from rfl, Result.andThen_ok, asAddr, Sem.run_pure, hu]
 | other => rw [hkd] at g6; cases g6
 | _ =>
  rw [hkd] at hm g5
  have hnp : ∀ e, desc ≠ .pointer e := fun e he => by rw [he] at g5; cases g5
  cases pr with
  | true => cases hm
  | false =>
   obtain ⟨h1, h2⟩ := Prod.mk.inj (Option.some.inj hm)
   exact plain hnp rfl h2 h1
theorem ares_sound {P : Program} {E : Env} {Γ : Calling} (hT : ∀ t i, E.T t = some i → tiOf P t = some i) (hΓ : CSound DR P Γ) (o : Oper) {S : Nat → Nat → Prop} {β : Blocks} {w : World} {h h' : List AObj} {a : Act} {ρ : Operand → D}
  (hρ : ∀ x, RelD S β w (a.eval x) (ρ x)) (hi : HInv S β w h) {d : D} (hd : ares E Γ o.op ρ h = some (d, h')) {K : Act → World → Prop} {Q : Exit → Act → World → Prop}
  (hK : ∀ S' β' w' v, Ext DR S β w S' β' w' → HInv S' β' w' h' → RelD S' β' w' v d → K (a.put o.dst v) w') : o.wp P a w K Q := by
 -- a value out of memory as it stands
 have same : ∀ {v : Value} (hrun : (execOp a.eval o).run P w = .ok (.value v) w) (hh : h' = h) (hv : RelD S β w v d), o.wp P a w K Q := by
  intro v hrun hh hv
  subst hh
  exact wp_of_value hrun (hK S β w v (Ext.refl _ _ _) hi hv)
 obtain ⟨dst, op, type, pos, after, guard⟩ := o
 dsimp only at hd hK same
 cases op <;> simp only [ares] at hd <;> try (cases hd; done)
 case move x =>
  obtain ⟨rfl, rfl⟩ := Prod.mk.inj (Option.some.inj hd)
  exact same (v := a.eval x) rfl rfl (hρ x)
 case assign x =>
  obtain ⟨rfl, rfl⟩ := Prod.mk.inj (Option.some.inj hd)
  exact same (v := a.eval x) rfl rfl (hρ x)
 case pick c x y =>
  split at hd
  ·rename_i t ht
   obtain ⟨rfl, rfl⟩ := Prod.mk.inj (Option.some.inj hd)
   have hc := hρ c
   rw [ht] at hc
   generalize hce : a.eval c = vc at hc
   cases hc.of_v
   refine same (v := if t then a.eval x else a.eval y) (by simp [execOp, hce, asBool]) rfl ?_
   cases t
   ·exact hρ y
   ·exact hρ x
  ·cases hd
 case alloc e =>
  split at hd
  ·rename_i i hie
   split at hd
   ·rename_i hm
    obtain ⟨rfl, rfl⟩ := Prod.mk.inj (Option.some.inj hd)
    obtain ⟨info, desc, z, g1, g2, g3, g4, g5, g6, g7, g8, _⟩ := tiOf_spec (hT _ _ hie)
    have hz : RelD S β w z (.v i.zero) := .v _ _ (ofValue_rel g4)
    obtain ⟨β', e1, e2, e3⟩ := box_own (DR := DR) hi e z (.v i.zero) (ofValue_solid g4) (by simpa [D.cells] using hm) hz
    refine wp_of_value (v := .pointer (some ⟨w.heap.size, 0, none⟩)) (w' := w.alloc (.cells z.cells e)) ?_ (hK S β' _ _ e1 e2 e3)
    simp [execOp, Instr.alloc, zeroValue, run_typeInfo g1, g3, newVar, newRow]
   ·cases hd
  ·cases hd
 case box e x =>
  split at hd
  ·rename_i hc
   rw [Bool.and_eq_true, decide_eq_true_eq] at hc
   obtain ⟨rfl, rfl⟩ := Prod.mk.inj (Option.some.inj hd)
   obtain ⟨β', e1, e2, e3⟩ := box_own (DR := DR) hi e (a.eval x) (ρ x) hc.1 hc.2 (hρ x)
   refine wp_of_value (v := .pointer (some ⟨w.heap.size, 0, none⟩)) (w' := w.alloc (.cells (a.eval x).cells e)) ?_ (hK S β' _ _ e1 e2 e3)
   simp [execOp, Instr.box, newVar, newRow]
  ·cases hd
 case build t parts =>
  split at hd
  ·rename_i i hti
   split at hd
   ·rename_i fs hk
    split at hd
    ·rename_i ps hps
     split at hd
     ·rename_i cs hcs
      obtain ⟨rfl, rfl⟩ := Prod.mk.inj (Option.some.inj hd)
      obtain ⟨u, h1, h2⟩ := build_sound hT (S := S) (β := β) (w := w) hti hk hps (parts.map fun (i, x) => (i, a.eval x)) (parts.toList.map fun p => (p.1, (ρ p.2).unt)) (by simp) (fun j p q hp hq => by
       rw [Array.getElem?_map] at hp
       simp only [List.getElem?_map] at hq
       obtain ⟨p', hp', rfl⟩ := Option.map_eq_some_iff.1 hp
       obtain ⟨q', hq', rfl⟩ := Option.map_eq_some_iff.1 hq
       have : p' = q' := by
        have h1 : parts.toList[j]? = some p' := by simpa using hp'
        rw [h1] at hq'; exact Option.some.inj hq'
       subst this
       exact ⟨rfl, (hρ _).unt⟩) hcs
      exact same (v := u) (by simp [execOp, h1]) rfl h2
     ·cases hd
    ·cases hd
   ·cases hd
  ·cases hd
 case buildSlice t n parts =>
  split at hd
  ·rename_i ti hti
   split at hd
   ·rename_i e hk
    split at hd
    ·rename_i i hie
     split at hd
     ·rename_i hc
      obtain ⟨c1, c2, c3, c4⟩ := hc
      split at hd
      ·rename_i es hes
       split at hd
       ·rename_i hall
        have hpe := pures_spec hes
        have hlen : es.length = n := by
         have h1 := congrArg List.length hpe
         have h2 := congrArg List.length c1
         simp at h1 h2
         omega
        have hparts : ∀ (j : Nat) p x, (parts.map fun (i, x) => (i, a.eval x))[j]? = some p → es[j]? = some x → RelV S w p.2 x := fun j p x hp hx => by
         rw [Array.getElem?_map] at hp
         obtain ⟨p', hp', rfl⟩ := Option.map_eq_some_iff.1 hp
         have h1 : parts.toList[j]? = some p' := by simpa using hp'
         have h2 : (parts.toList.map fun p => (ρ p.2).unt)[j]? = some (ρ p'.2).unt := by simp only [List.getElem?_map, h1, Option.map_some]
         rw [hpe, List.getElem?_map, hx] at h2
         have h3 : (ρ p'.2).unt = .v x := (Option.some.inj h2).symm
         have := (hρ p'.2).unt
         rw [h3] at this
         exact this.of_v
        split at hd
        ·split at hd
         ·rename_i hn0
          obtain ⟨rfl, rfl⟩ := Prod.mk.inj (Option.some.inj hd)
          obtain ⟨v, w', β', h1, e1, e2, e3⟩ := buildSliceO_sound hT hi hti hk hie c2 c3 hn0 (parts.map fun (i, x) => (i, a.eval x)) (by simpa [Function.comp_def] using c1) hlen c4 hparts hall
          exact wp_of_value (by simp [execOp, h1]) (hK S β' w' v e1 e2 e3)
         ·cases hd
        ·obtain ⟨rfl, rfl⟩ := Prod.mk.inj (Option.some.inj hd)
         obtain ⟨v, w', S', h1, e1, e2, e3⟩ := buildSlice_sound hT hi hti hk hie c2 c3 (parts.map fun (i, x) => (i, a.eval x)) (by simpa [Function.comp_def] using c1) hlen c4 hparts hall
         exact wp_of_value (by simp [execOp, h1]) (hK S' β w' v e1 e2 (.v _ _ e3.mapPlain))
       ·cases hd
      ·cases hd
     ·cases hd
    ·cases hd
   ·cases hd
  ·cases hd
 case load t x =>
  split at hd
  ·rename_i i hti
   obtain ⟨y, hy, he⟩ := Option.map_eq_some_iff.1 hd
   obtain ⟨rfl, rfl⟩ := Prod.mk.inj he
   obtain ⟨u, h1, h2⟩ := loadD_sound hi (hT _ _ hti) hy (hρ x)
   exact same (v := u) (by simp [execOp, h1]) rfl h2
  ·cases hd
 case store t x y =>
  split at hd
  ·rename_i i hti
   obtain ⟨h2, hh2, he⟩ := Option.map_eq_some_iff.1 hd
   obtain ⟨rfl, rfl⟩ := Prod.mk.inj he
   obtain ⟨w', h1, e1, e2⟩ := storeD_sound hi (hT _ _ hti) hh2 (hρ x) (hρ y).into
   exact wp_of_skip (w' := w') (by simp [execOp, h1]) (hK S β w' undef e1 e2 (.v _ _ (.tuple _ _ rfl (fun i v x hv => by simp at hv))))
  ·cases hd
 case nilCheck x =>
  have hx := hρ x
  split at hd
  ·rename_i r off hr
   obtain ⟨rfl, rfl⟩ := Prod.mk.inj (Option.some.inj hd)
   rw [hr] at hx
   generalize hve : a.eval x = v at hx
   cases hx with
   | ptr r off b c k h => exact same (by simp [execOp, hve]) rfl (.ptr r off b c k h)
  ·rename_i r i off hr
   obtain ⟨rfl, rfl⟩ := Prod.mk.inj (Option.some.inj hd)
   rw [hr] at hx
   generalize hve : a.eval x = v at hx
   cases hx with
   | eptr r i off b c k p h hp => exact same (by simp [execOp, hve]) rfl (.eptr r i off b c k p h hp)
  ·rename_i cs hr
   obtain ⟨rfl, rfl⟩ := Prod.mk.inj (Option.some.inj hd)
   rw [hr] at hx
   generalize hve : a.eval x = v at hx
   cases hx with
   | vptr b off _ vals hs hr => exact same (by simp [execOp, hve]) rfl (.vptr b off _ vals hs hr)
  ·rename_i cs hr
   obtain ⟨rfl, rfl⟩ := Prod.mk.inj (Option.some.inj hd)
   rw [hr] at hx
   generalize hve : a.eval x = v at hx
   cases hx.of_v with
   | ptr b off _ vals hs hr => exact same (by simp [execOp, hve]) rfl (.v _ _ (.ptr b off _ vals hs hr))
  ·rename_i f hr
   obtain ⟨rfl, rfl⟩ := Prod.mk.inj (Option.some.inj hd)
   rw [hr] at hx
   generalize hve : a.eval x = v at hx
   cases hx.of_v
   exact same (by simp [execOp, hve]) rfl (.v _ _ (.fn f))
  ·rename_i f x1 x2 hr
   obtain ⟨rfl, rfl⟩ := Prod.mk.inj (Option.some.inj hd)
   rw [hr] at hx
   generalize hve : a.eval x = v at hx
   cases hx with
   | func f first captured _ _ hl hl' hr hr' => exact same (by simp [execOp, hve]) rfl (.func f first captured _ _ hl hl' hr hr')
  ·cases hd
 case binOp bo t x y yt =>
  obtain ⟨r, hr, he⟩ := Option.map_eq_some_iff.1 hd
  obtain ⟨rfl, rfl⟩ := Prod.mk.inj he
  obtain ⟨v, h1, h2⟩ := binD_sound hT hr (hρ x).unt (hρ y).unt x y
  refine same (v := v) ?_ rfl h2
  simp only [execOp]
  have h1' := h1
  simp only [Sem.run_bind] at h1' ⊢
  rw [h1']
  rfl
 case unOp uo t x =>
  obtain ⟨r, hr, he⟩ := Option.map_eq_some_iff.1 hd
  obtain ⟨rfl, rfl⟩ := Prod.mk.inj he
  obtain ⟨v, h1, h2⟩ := unD_sound (P := P) hr (hρ x)
  exact same (v := v) (by simp [execOp, h1]) rfl h2
 case convert src dst' x =>
  obtain ⟨r, hr, he⟩ := Option.map_eq_some_iff.1 hd
  obtain ⟨rfl, rfl⟩ := Prod.mk.inj he
  obtain ⟨v, h1, h2⟩ := convD_sound hT hr (hρ x).unt
  exact same (v := v) (by simp [execOp, h1]) rfl h2
 case makeSlice t l c =>
  obtain ⟨v, w', β', h1, e1, e2, e3⟩ := makeSlice_sound hT hi hd (hρ l) (hρ c)
  exact wp_of_value (by simp [execOp, h1]) (hK S β' w' v e1 e2 e3)
 case slice t x lo hi' mx =>
  split at hd
  ·obtain ⟨v, h1, e1, e2, e3⟩ := cutRow_sound hT hi hd (hρ x).unt (relO_map hρ lo) (relO_map hρ hi') (relO_map hρ mx)
   exact wp_of_value (by simp [execOp, h1]) (hK S β w v e1 e2 e3)
  ·obtain ⟨r, hr, he⟩ := Option.map_eq_some_iff.1 hd
   obtain ⟨rfl, rfl⟩ := Prod.mk.inj he
   have hr : sliceD E.T h t (ρ x).unt (lo.map ρ) (hi'.map ρ) (mx.map ρ) = some r := by
    split at hr
    ·exact hr
    ·exact sliceD_nil hr
   obtain ⟨v, h1, h2⟩ := slice_sound hT hi hr (hρ x).unt (relO_map hρ lo) (relO_map hρ hi') (relO_map hρ mx)
   exact same (v := v) (by simp [execOp, h1]) rfl h2
 case fieldAddr t x f =>
  obtain ⟨r, hr, he⟩ := Option.map_eq_some_iff.1 hd
  obtain ⟨rfl, rfl⟩ := Prod.mk.inj he
  obtain ⟨v, h1, h2⟩ := fieldAddr_sound hT hr (hρ x)
  exact same (v := v) (by simp [execOp, h1]) rfl h2
 case makeFunc fn first captured =>
  cases fn with
  | func f =>
   dsimp only at hd
   split at hd
   ·rename_i hfi
    obtain ⟨rfl, rfl⟩ := Prod.mk.inj (Option.some.inj hd)
    have h1 : first = #[] := by apply Array.ext'; simpa using hfi
    subst h1
    refine same (v := .func (.func f) #[] (captured.map a.eval)) (by simp [execOp, Instr.makeFunc]) rfl ?_
    obtain ⟨r1, r2⟩ := relL_map hρ captured
    exact .func f #[] _ [] _ rfl r1 (fun i v x hv => by simp at hv) r2
   ·cases hd
  | _ => cases hd
 case field t x f =>
  obtain ⟨r, hr, he⟩ := Option.map_eq_some_iff.1 hd
  obtain ⟨rfl, rfl⟩ := Prod.mk.inj he
  obtain ⟨v, h1, h2⟩ := field_sound hT hr (hρ x)
  exact same (v := v) (by simp [execOp, h1]) rfl h2
 case indexAddr t x i =>
  obtain ⟨r, hr, he⟩ := Option.map_eq_some_iff.1 hd
  obtain ⟨rfl, rfl⟩ := Prod.mk.inj he
  obtain ⟨v, h1, h2⟩ := indexAddr_sound hT hi hr (hρ x).unt (hρ i)
  exact same (v := v) (by simp [execOp, h1]) rfl h2
 case index t x i =>
  obtain ⟨r, hr, he⟩ := Option.map_eq_some_iff.1 hd
  obtain ⟨rfl, rfl⟩ := Prod.mk.inj he
  obtain ⟨v, h1, h2⟩ := index_sound hT hr (hρ x) (hρ i)
  exact same (v := v) (by simp [execOp, h1]) rfl h2
 case extract t i =>
  have hx := hρ t
  split at hd
  ·rename_i vs hvs
   rw [hvs] at hx
   generalize hve : a.eval t = v at hx
   obtain ⟨y, hy, he⟩ := Option.map_eq_some_iff.1 hd
   obtain ⟨rfl, rfl⟩ := Prod.mk.inj he
   cases hx.of_v with
   | tuple us _ hl hr =>
   have hlt := lt_of_getElem? hy
   have hu : us[i]? = some us[i] := Array.getElem?_eq_getElem (by omega)
   exact same (v := us[i]) (by simp [execOp, hve, Instr.extract, hu]) rfl (.v _ _ (hr i _ y hu hy))
  ·rename_i vs hvs
   rw [hvs] at hx
   generalize hve : a.eval t = v at hx
   obtain ⟨y, hy, he⟩ := Option.map_eq_some_iff.1 hd
   obtain ⟨rfl, rfl⟩ := Prod.mk.inj he
   cases hx with
   | tuple us _ hl hr =>
   have hlt := lt_of_getElem? hy
   have hu : us[i]? = some us[i] := Array.getElem?_eq_getElem (by omega)
   exact same (v := us[i]) (by simp [execOp, hve, Instr.extract, hu]) rfl (hr i _ y hu hy)
  ·cases hd
 case makeMap t r =>
  split at hd
  ·rename_i i hti
   split at hd
   ·rename_i kt et hk
    obtain ⟨rfl, rfl⟩ := Prod.mk.inj (Option.some.inj hd)
    obtain ⟨β', e1, e2, e3⟩ := makeMap_sound (DR := DR) hi t
    refine wp_of_value (v := .map (some w.heap.size)) (w' := w.alloc (.map #[] 0)) ?_ (hK S β' _ _ e1 e2 e3)
    simp [execOp, Instr.makeMap, Result.andThen]
   ·cases hd
  ·cases hd
 case lookup t x i ok =>
  obtain ⟨r, hr, he⟩ := Option.map_eq_some_iff.1 hd
  obtain ⟨rfl, rfl⟩ := Prod.mk.inj he
  obtain ⟨v, h1, h2⟩ := lookup_sound hT hi hr (hρ x) (hρ i)
  exact same (v := v) (by simp [execOp, h1]) rfl h2
 case mapUpdate t m i x =>
  obtain ⟨h2, hh2, he⟩ := Option.map_eq_some_iff.1 hd
  obtain ⟨rfl, rfl⟩ := Prod.mk.inj he
  obtain ⟨w', h1, e1, e2⟩ := mapSet_sound hT hi hh2 (hρ m) (hρ i) (hρ x)
  exact wp_of_skip (w' := w') (by simp [execOp, h1]) (hK S β w' undef e1 e2 (.v _ _ (.tuple _ _ rfl (fun i v x hv => by simp at hv))))
 case insert t m i x =>
  obtain ⟨h2, hh2, he⟩ := Option.map_eq_some_iff.1 hd
  obtain ⟨rfl, rfl⟩ := Prod.mk.inj he
  obtain ⟨w', h1, e1, e2⟩ := mapSet_sound hT hi hh2 (hρ m) (hρ i) (hρ x)
  exact wp_of_skip (w' := w') (by simp [execOp, h1]) (hK S β w' undef e1 e2 (.v _ _ (.tuple _ _ rfl (fun i v x hv => by simp at hv))))
 case mapEntry t m i =>
  obtain ⟨v, w', h1, e1, e2, e3⟩ := mapEntry_sound hT hi hd (hρ m) (hρ i)
  exact wp_of_value (by simp [execOp, h1]) (hK S β w' v e1 e2 e3)
 case entryStore t m s x =>
  obtain ⟨h2, hh2, he⟩ := Option.map_eq_some_iff.1 hd
  obtain ⟨rfl, rfl⟩ := Prod.mk.inj he
  obtain ⟨w', h1, e1, e2⟩ := entryStore_sound (P := P) (t := t) hi hh2 (hρ m) (hρ s) (hρ x)
  exact wp_of_skip (w' := w') (by simp [execOp, h1]) (hK S β w' undef e1 e2 (.v _ _ (.tuple _ _ rfl (fun i v x hv => by simp at hv))))
 case range t x =>
  obtain ⟨v, w', β', h1, e1, e2, e3⟩ := range_sound hT hi hd (hρ x)
  exact wp_of_value (by simp [execOp, h1]) (hK S β' w' v e1 e2 e3)
 case entry x =>
  obtain ⟨r, hr, he⟩ := Option.map_eq_some_iff.1 hd
  obtain ⟨rfl, rfl⟩ := Prod.mk.inj he
  obtain ⟨v, h1, h2⟩ := entry_sound (P := P) hi hr (hρ x)
  exact same (v := v) (by simp [execOp, h1]) rfl h2
 case call c =>
  obtain ⟨callee, args, argTypes⟩ := c
  dsimp only at hd
  have hargs := relL_map hρ args
  split at hd
  ·rename_i b
   unfold builtinD at hd
   split at hd
   ·-- len
    rename_i t x hts hxs
    have h1 : argTypes = #[t] := by apply Array.ext'; simpa using hts
    rw [hxs] at hargs
    have h2 : (args.map a.eval).size = 1 := hargs.1
    obtain ⟨v, hv⟩ : ∃ v, args.map a.eval = #[v] := by
     have := Array.size_eq_one_iff.1 h2; exact this
    have hvx := hargs.2 0 v x (by rw [hv]; rfl) rfl
    split at hd
    ·rename_i hm
     obtain ⟨y, hy, he⟩ := Option.map_eq_some_iff.1 hd
     obtain ⟨rfl, rfl⟩ := Prod.mk.inj he
     obtain ⟨u, h3, h4⟩ := lenMap_sound hT hi (ty := type) hm hy hvx
     exact same (v := u) (by simp [execOp, resolve, invoke, builtin, h1, hv, h3]) rfl h4
    ·obtain ⟨y, hy, he⟩ := Option.map_eq_some_iff.1 hd
     obtain ⟨rfl, rfl⟩ := Prod.mk.inj he
     obtain ⟨u, h3, h4⟩ := len_sound hT (ty := type) hy hvx.unt
     exact same (v := u) (by simp [execOp, resolve, invoke, builtin, h1, hv, h3]) rfl h4
   ·-- append
    rename_i t t' s x hts hxs
    split at hd
    ·rename_i e
     subst e
     have h1 : argTypes = #[t, t] := by apply Array.ext'; simpa using hts
     rw [hxs] at hargs
     have h2 : (args.map a.eval).size = 2 := hargs.1
     obtain ⟨v, u, hv⟩ : ∃ v u, args.map a.eval = #[v, u] := by
      have := size_two h2
      exact this
     have hv0 := hargs.2 0 v s (by rw [hv]; rfl) rfl
     have hv1 := hargs.2 1 u x (by rw [hv]; rfl) rfl
     obtain ⟨y, w', S', β', h3, e1, e2, e3⟩ := append_sound hT (ty := type) hi hd hv0 hv1
     exact wp_of_value (by simp [execOp, resolve, invoke, builtin, h1, hv, h3]) (hK S' β' w' y e1 e2 e3)
    ·have h1 : argTypes = #[t, t'] := by apply Array.ext'; simpa using hts
     rw [hxs] at hargs
     have h2 : (args.map a.eval).size = 2 := hargs.1
     obtain ⟨v, u, hv⟩ : ∃ v u, args.map a.eval = #[v, u] := size_two h2
     have hv0 := hargs.2 0 v s (by rw [hv]; rfl) rfl
     have hv1 := hargs.2 1 u x (by rw [hv]; rfl) rfl
     obtain ⟨y, w', S', β', h3, e1, e2, e3⟩ := append_str_sound hT (ty := type) hi hd hv0 hv1
     exact wp_of_value (by simp [execOp, resolve, invoke, builtin, h1, hv, h3]) (hK S' β' w' y e1 e2 e3)
   ·-- min
    rename_i ts k x k' y hts hxs
    obtain ⟨rfl, rfl⟩ := Prod.mk.inj (Option.some.inj hd)
    rw [hxs] at hargs
    have h2 : (args.map a.eval).size = 2 := hargs.1
    obtain ⟨v, u, hv⟩ : ∃ v u, args.map a.eval = #[v, u] := size_two h2
    have hv0 := (hargs.2 0 v _ (by rw [hv]; rfl) rfl).of_v
    have hv1 := (hargs.2 1 u _ (by rw [hv]; rfl) rfl).of_v
    cases hv0; cases hv1
    exact same (by simp [execOp, resolve, invoke, builtin, hv, run_min_int2]) rfl (.v _ _ (.int _ _))
   ·rename_i ts k x k' y hts hxs
    obtain ⟨rfl, rfl⟩ := Prod.mk.inj (Option.some.inj hd)
    rw [hxs] at hargs
    have h2 : (args.map a.eval).size = 2 := hargs.1
    obtain ⟨v, u, hv⟩ : ∃ v u, args.map a.eval = #[v, u] := size_two h2
    have hv0 := (hargs.2 0 v _ (by rw [hv]; rfl) rfl).of_v
    have hv1 := (hargs.2 1 u _ (by rw [hv]; rfl) rfl).of_v
    cases hv0; cases hv1
    exact same (by simp [execOp, resolve, invoke, builtin, hv, run_max_int2]) rfl (.v _ _ (.int _ _))
   ·rename_i ts k x k' y k'' z hts hxs
    obtain ⟨rfl, rfl⟩ := Prod.mk.inj (Option.some.inj hd)
    rw [hxs] at hargs
    have h2 : (args.map a.eval).size = 3 := hargs.1
    obtain ⟨v, u, t, hv⟩ : ∃ v u t, args.map a.eval = #[v, u, t] := size_three h2
    have hv0 := (hargs.2 0 v _ (by rw [hv]; rfl) rfl).of_v
    have hv1 := (hargs.2 1 u _ (by rw [hv]; rfl) rfl).of_v
    have hv2 := (hargs.2 2 t _ (by rw [hv]; rfl) rfl).of_v
    cases hv0; cases hv1; cases hv2
    exact same (by simp [execOp, resolve, invoke, builtin, hv, run_max_int3]) rfl (.v _ _ (.int _ _))
   ·-- clear
    rename_i t x hts hxs
    obtain ⟨h', hh', he⟩ := Option.map_eq_some_iff.1 hd
    obtain ⟨rfl, rfl⟩ := Prod.mk.inj he
    have h1 : argTypes = #[t] := by apply Array.ext'; simpa using hts
    rw [hxs] at hargs
    have h2 : (args.map a.eval).size = 1 := hargs.1
    obtain ⟨v, hv⟩ : ∃ v, args.map a.eval = #[v] := by
     have := Array.size_eq_one_iff.1 h2; exact this
    have hvx := hargs.2 0 v x (by rw [hv]; rfl) rfl
    obtain ⟨w', h3, e1, e2⟩ := clear_sound (P := P) hT (ty := type) hi hh' hvx
    exact wp_of_value (w' := w') (by simp [execOp, resolve, invoke, builtin, h1, hv, h3]) (hK S β w' (.tuple #[]) e1 e2 (.v _ _ (.tuple _ _ rfl (fun i v x hv => by simp at hv))))
   ·-- copy
    rename_i t t' x y hts hxs
    have h1 : argTypes = #[t, t'] := by apply Array.ext'; simpa using hts
    rw [hxs] at hargs
    have h2 : (args.map a.eval).size = 2 := hargs.1
    obtain ⟨v, u, hv⟩ : ∃ v u, args.map a.eval = #[v, u] := size_two h2
    have hv0 := (hargs.2 0 v x (by rw [hv]; rfl) rfl).unt
    have hv1 := (hargs.2 1 u y (by rw [hv]; rfl) rfl).unt
    obtain ⟨z, w', h3, e1, e2, e3⟩ := copy_sound (P := P) (t' := t') hT (ty := type) hi hd hv0 hv1
    exact wp_of_value (by simp [execOp, resolve, invoke, builtin, h1, hv, h3]) (hK S β w' z e1 e2 e3)
   ·cases hd
  ·rename_i f0
   have hf := hρ f0
   split at hd
   ·rename_i f x1 x2 hf0
    split at hd
    ·cases hd
    obtain ⟨first, captured, hve, hl, hl'⟩ := cloOf_sound hf0 hf
    obtain ⟨hex, hc⟩ := callD_sound (E := E) hΓ f _ h d h' hd
    have hall := relL_append (relL_append (a := first) (as := x1) hl hargs) (b := captured) (bs := x2) hl'
    refine wp_of_enter (f := f) (args := first ++ args.map a.eval ++ captured) (w' := w) (by simp [execOp, resolve, Deferred.ofValue, invoke, hve, run_callFunc hex]) ((hc S β w _ hall hi).mono ?_) (R := fun v w'' => ∃ S' β', Ext DR S β w S' β' w'' ∧ HInv S' β' w'' h' ∧ RelD S' β' w'' v d) ?_
    ·rintro e w'' ⟨v, S', β', rfl, hr⟩
     exact ⟨v, rfl, S', β', hr⟩
    ·rintro v w'' ⟨S', β', e1, e2, e3⟩
     exact hK S' β' w'' v e1 e2 e3
   ·cases hd
  ·rename_i r0 name
   have hr0 := hρ r0
   split at hd
   case h_2 => cases hd
   rename_i t d0 hbox
   rw [hbox] at hr0
   split at hd
   case h_2 => cases hd
   rename_i f' x hmeth
   generalize hve : a.eval r0 = v at hr0
   cases hr0 with
   | box _ v0 _ hv0 =>
   obtain ⟨u, hu, hru⟩ := methD_sound hT hi hmeth hv0
   obtain ⟨hex, hc⟩ := callD_sound (E := E) hΓ f' _ h d h' hd
   have hall : RelL S β w (#[u] ++ args.map a.eval) (x :: argsD ρ args.toList) := relL_append (a := #[u]) (as := [x]) ⟨rfl, fun i v y h1 h2 => by
    cases i with
    | zero => cases h1; cases h2; exact hru
    | succ i => simp at h2⟩ hargs
   refine wp_of_enter (f := f') (args := #[u] ++ args.map a.eval) (w' := w) ?_ ((hc S β w _ hall hi).mono ?_) (R := fun v w'' => ∃ S' β', Ext DR S β w S' β' w'' ∧ HInv S' β' w'' h' ∧ RelD S' β' w'' v d) ?_
   ·have e1 : (#[Value.iface t v0] ++ args.map a.eval)[0]? = some (.iface t v0) := by
     rw [Array.getElem?_append_left (by simp)]
     rfl
    have e2 : (#[Value.iface t v0] ++ args.map a.eval).extract 1 (#[Value.iface t v0] ++ args.map a.eval).size = args.map a.eval := by
     apply Array.ext'
     simp only [Array.toList_extract, List.extract_eq_take_drop, Array.toList_append, List.cons_append, List.nil_append, List.drop_succ_cons, List.drop_zero, Array.toList_map]
     exact List.take_of_length_le (by simp)
    simp only [execOp, resolve, Sem.run_bind, Sem.run_pure, Result.andThen_ok, invoke, hve, e1, e2, callMethod, run_program, hu, run_callFunc hex]
   ·rintro e w'' ⟨v, S', β', rfl, hr⟩
    exact ⟨v, rfl, S', β', hr⟩
   ·rintro v w'' ⟨S', β', e1, e2, e3⟩
    exact hK S' β' w'' v e1 e2 e3
 case makeInterface t x =>
  split at hd
  case h_2 => cases hd
  rename_i i hti
  split at hd
  case isTrue => cases hd
  rename_i hni
  obtain ⟨rfl, rfl⟩ := Prod.mk.inj (Option.some.inj hd)
  obtain ⟨_, desc, z, _, g2, _, _, g5, g6, _⟩ := tiOf_spec (hT _ _ hti)
  refine same (v := .iface t (a.eval x)) ?_ rfl (.box t _ _ (hρ x))
  have e : (Instr.makeInterface t (a.eval x)).run P w = .ok (.iface t (a.eval x)) w := by
   unfold Instr.makeInterface
   simp only [Sem.run_bind, run_underlying g2, Result.andThen_ok]
   cases desc <;> first | rfl | (exact absurd (by rw [g5]; rfl) hni) | (exact absurd (by rw [← g5]; rfl) hni) | (rw [← g5] at g6; cases g6)
  simp [execOp, e]
 case typeAssert x xt t ok =>
  split at hd
  case h_2 => cases hd
  rename_i t' d0 i hx hti
  split at hd
  case isFalse => cases hd
  rename_i htt
  obtain ⟨htt, hni⟩ := htt
  subst htt
  obtain ⟨rfl, rfl⟩ := Prod.mk.inj (Option.some.inj hd)
  obtain ⟨_, desc, z, _, g2, _, _, g5, g6, _⟩ := tiOf_spec (hT _ _ hti)
  have hrx := hρ x
  rw [hx] at hrx
  generalize hve : a.eval x = v at hrx
  cases hrx with
  | box _ v0 _ hv0 =>
  refine same (v := v0) ?_ rfl hv0
  have e : (Instr.typeAssert (.iface t' v0) xt t' false).run P w = .ok v0 w := by
   unfold Instr.typeAssert
   simp only [Sem.run_bind, run_underlying g2, Result.andThen_ok]
   cases desc <;> first | (simp; done) | (exact absurd (show i.kind.isIface = true by rw [g5]; rfl) (by rw [hni]; decide)) | (exact absurd (show i.kind.isIface = true by rw [← g5]; rfl) (by rw [hni]; decide)) | (rw [← g5] at g6; cases g6)
  simp [execOp, hve, e]
end Go.Abs
