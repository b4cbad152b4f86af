import Derived.Test.YtkmmaelmdioleaaGreatDoorAbsY
import Derived.Test.YtkmmaelmdioleaaGreatDoorAbsI
namespace Go.Abs
set_option linter.unusedVariables false
set_option linter.unusedSimpArgs false
set_option linter.unnecessarySimpa false
variable {DR : Prop}
def AExit.to : AExit → Exit
 | .normal => .normal
 | .exit id => .exit id
 | .ret => .ret
def Ends (DR : Prop) (S : Nat → Nat → Prop) (β : Blocks) (w : World) (e : AExit) (σ : St) : Exit → Act → World → Prop :=
 fun ex a' w' => ex = e.to ∧ ∃ S' β', Inv S' β' σ a' w' ∧ Ext DR S β w S' β' w'
theorem Ends.ext {S S1 : Nat → Nat → Prop} {β β1 : Blocks} {w w1 : World} {e : AExit} {σ : St} {ex : Exit} {a : Act} {w' : World} (hE : Ext DR S β w S1 β1 w1) (h : Ends DR S1 β1 w1 e σ ex a w') : Ends DR S β w e σ ex a w' :=
 let ⟨h1, S', β', h2, h3⟩ := h
 ⟨h1, S', β', h2, hE.trans h3⟩
theorem Inv.forget {S : Nat → Nat → Prop} {β : Blocks} {σ : St} {a : Act} {w : World} (h : Inv S β σ a w) (keep : List Nat) : Inv S β (forget keep σ) a w := by
 refine ⟨by simp [Abs.forget, h.size], fun i v d h1 h2 => ?_, h.heap, h.defers⟩
 simp only [Abs.forget, List.getElem?_mapIdx] at h2
 obtain ⟨x, hx, rfl⟩ := Option.map_eq_some_iff.1 h2
 split
 ·exact h.tmps i v x h1 hx
 ·exact .undef _
theorem aloop_sound {P : Program} {c : Code} {keep acc : List Nat} {L : Nat} {body : St → Option (AExit × St)} (hb : ∀ σ e σ', body σ = some (e, σ') → ∀ S β a w, Inv S β σ a w → c.wp P (Ends DR S β w e σ') a w) (n : Nat) (σ : St) (e : AExit) (σ' : St)
  (h : aloop keep acc L body n σ = some (e, σ')) (S : Nat → Nat → Prop) (β : Blocks) (hβ : β.length = L) (w0 : World) (S1 : Nat → Nat → Prop) (β1 : Blocks) (a : Act) (w : World) (hI : Inv S1 β1 σ a w) (hE : Ext DR S β w0 S1 β1 w) : (Code.loop c).wp P (Ends DR S β w0 e σ') a w := by
 refine wp_loop_ghost (fun n a' w' => ∃ σ1 S1 β1, aloop keep acc L body n σ1 = some (e, σ') ∧ Inv S1 β1 σ1 a' w' ∧ Ext DR S β w0 S1 β1 w') n ⟨σ, S1, β1, h, hI, hE⟩ ?_
 rintro m a' w' ⟨σ1, S1, β1, h1, hI1, hE1⟩
 cases m with
 | zero => simp [aloop] at h1
 | succ m =>
  simp only [aloop] at h1
  split at h1
  ·rename_i σ2 h2
   refine wp_mono (hb σ1 _ _ h2 S1 β1 a' w' hI1) ?_
   rintro ex a2 w2 ⟨rfl, S2, β2, hI2, hE2⟩
   have hE3 := hE1.trans hE2
   have hL : L ≤ (forget keep σ2).heap.length := by
    have h3 := hE3.le
    have h4 := hI2.heap.len
    show L ≤ σ2.heap.length
    omega
   obtain ⟨β3, hI3, hE4⟩ := (hI2.forget keep).squash keep acc hL
   exact ⟨m, by omega, _, S2, β3, h1, hI3, hE4 S β w0 hβ hE3⟩
  ·rename_i e2 σ2 hne h2
   obtain ⟨rfl, rfl⟩ := Prod.mk.inj (Option.some.inj h1)
   refine wp_mono (hb σ1 _ _ h2 S1 β1 a' w' hI1) ?_
   rintro ex a2 w2 ⟨rfl, S2, β2, hI2, hE2⟩
   cases e2 with
   | normal => exact (hne rfl).elim
   | exit id => exact ⟨rfl, S2, β2, hI2.forget keep, hE1.trans hE2⟩
   | ret => exact ⟨rfl, S2, β2, hI2.forget keep, hE1.trans hE2⟩
  ·cases h1
theorem Ends.squash {S : Nat → Nat → Prop} {β : Blocks} {w : World} {σ0 σ' : St} {a0 a : Act} {w' : World} {ex : Exit} {e : AExit} (hI : Inv S β σ0 a0 w) (keep acc : List Nat) (h : Ends DR S β w e σ' ex a w') : Ends DR S β w e (Abs.squash keep acc σ0.heap.length σ') ex a w' := by
 obtain ⟨h1, S', β', h2, h3⟩ := h
 have hL : σ0.heap.length ≤ σ'.heap.length := by
  have h4 := h3.le
  have h5 := h2.heap.len
  have h6 := hI.heap.len
  omega
 obtain ⟨β2, h4, h5⟩ := h2.squash keep acc hL
 exact ⟨h1, S', β2, h4, h5 S β w hI.heap.len h3⟩
theorem aeval_sound {P : Program} {E : Env} {Γ : Calling} (hm : P.follows .mixedOrders = true) (hT : ∀ t i, E.T t = some i → tiOf P t = some i) (hΓ : CSound DR P Γ) (keep : Keep) (acc : List Nat) (n : Nat) : ∀ (c : Code) (σ : St) (e : AExit) (σ' : St),
  aeval E Γ keep acc n c σ = some (e, σ') → ∀ S β a w, Inv S β σ a w → c.wp P (Ends DR S β w e σ') a w := by
 intro c
 induction c with
 | skip =>
  intro σ e σ' h S β a w hI
  simp only [aeval, Option.some.injEq, Prod.mk.injEq] at h
  obtain ⟨rfl, rfl⟩ := h
  exact wp_skip ⟨rfl, S, β, hI, Ext.refl _ _ _⟩
 | region id ops draw =>
  intro σ e σ' h S β a w hI
  simp only [aeval] at h
  have hI' : Inv S β σ a w.drew := ⟨hI.size, fun i v d g1 g2 => (hI.tmps i v d g1 g2).mono (w := w) (w' := w.drew) (fun _ _ h => ⟨h, rfl⟩) (fun _ _ h => h), hI.heap.drew, hI.defers⟩
  split at h
  ·rename_i hd
   rw [Bool.and_eq_true] at hd
   obtain ⟨rfl, _⟩ := hd
   obtain ⟨σ1, h1, h2⟩ := Option.map_eq_some_iff.1 h
   obtain ⟨rfl, rfl⟩ := Prod.mk.inj h2
   exact wp_region_any hm (par_sound hT hΓ h1 hI' (fun S' β' a' w' hI'' hE' => ⟨rfl, S', β', hI'', (Ext.drew S β w).trans hE'⟩))
  ·rename_i hd
   split at h
   ·rename_i σ1 h1
    obtain ⟨rfl, rfl⟩ := Prod.mk.inj (Option.some.inj h)
    have hidx : aidx E Γ ops (List.range ops.size) σ = some σ1 := by
     rw [List.range_eq_range', ← Array.length_toList, aidx_range ops.toList 0 σ (fun q o hq => by simpa using hq)]
     exact h1
    cases draw with
    | false => exact wp_region (step_sound hT hΓ _ hI hidx (fun S' β' a' w' hI' hE' => ⟨rfl, S', β', hI', hE'⟩))
    | true =>
     refine wp_region_any hm ?_
     by_cases hof : orderFree E ops = true
     case neg =>
      by_cases hfar : farOk E ops σ = true
      ·exact far_sound hT hΓ hfar _ _ _ (by simp) (rem_start ops) hI' hidx (fun S' β' a' w' hI'' hE' => ⟨rfl, S', β', hI'', (Ext.drew S β w).trans hE'⟩)
      have hlt : lateOk E ops = true := by
       have h1 : orderFree E ops = false := by simpa using hof
       have h2 : farOk E ops σ = false := by simpa using hfar
       rw [h1, h2] at hd
       simpa using hd
      exact late_region hT hΓ hlt hidx hI' (fun S' β' a' w' hI'' hE' => ⟨rfl, S', β', hI'', (Ext.drew S β w).trans hE'⟩)
     refine any_sound hT hΓ hof _ _ _ (by simp) (rem_start ops) hI' hidx (fun S' β' a' w' hI'' hE' => ⟨rfl, S', β', hI'', (Ext.drew S β w).trans hE'⟩)
   ·cases h
 | seq x y ihx ihy =>
  intro σ e σ' h S β a w hI
  simp only [aeval] at h
  split at h
  ·rename_i σ1 h1
   refine wp_seq (wp_mono (ihx σ _ _ h1 S β a w hI) ?_)
   rintro ex a1 w1 ⟨rfl, S1, β1, hI1, hE1⟩
   exact wp_mono (ihy σ1 e σ' h S1 β1 a1 w1 hI1) (fun ex a2 w2 hh => hh.ext hE1)
  ·rename_i r hne
   refine wp_seq (wp_mono (ihx σ e σ' h S β a w hI) ?_)
   rintro ex a1 w1 ⟨rfl, hh⟩
   cases e with
   | normal => exact absurd h (hne σ')
   | exit id => exact ⟨rfl, hh⟩
   | ret => exact ⟨rfl, hh⟩
 | cond c x y ihx ihy =>
  intro σ e σ' h S β a w hI
  simp only [aeval] at h
  have hc := hI.ev c
  split at h
  ·rename_i b hv
   rw [hv] at hc
   have hc' : a.eval c = .bool b := by
    generalize a.eval c = v at hc
    cases hc.of_v; rfl
   -- one branch
   have one : ∀ (z : Code), (∀ e σ', aeval E Γ keep acc n z σ = some (e, σ') → z.wp P (Ends DR S β w e σ') a w) → (match aeval E Γ keep acc n z σ with
     | some (.normal, σ') => some (AExit.normal, squash (keep.cond (okey c)) acc σ.heap.length σ')
     | r => r) = some (e, σ') → z.wp P (Ends DR S β w e σ') a w := by
    intro z hz h
    split at h
    ·rename_i σ1 h1
     obtain ⟨rfl, rfl⟩ := Prod.mk.inj (Option.some.inj h)
     exact wp_mono (hz _ _ h1) (fun ex a2 w2 hh => Ends.squash hI (keep.cond (okey c)) acc hh)
    ·exact hz _ _ h
   cases b with
   | true => exact wp_cond_true hc' (one x (fun e σ' h => ihx σ e σ' h S β a w hI) h)
   | false => exact wp_cond_false hc' (one y (fun e σ' h => ihy σ e σ' h S β a w hI) h)
  ·cases h
 | block id c ih =>
  intro σ e σ' h S β a w hI
  simp only [aeval] at h
  split at h
  ·rename_i id' σ1 h1
   refine wp_block (wp_mono (ih σ _ _ h1 S β a w hI) ?_)
   rintro ex a1 w1 ⟨rfl, hh⟩
   split at h
   ·rename_i hid
    obtain ⟨rfl, rfl⟩ := Prod.mk.inj (Option.some.inj h)
    simp only [AExit.to, Exit.inBlock, hid, if_true]
    exact Ends.squash hI (keep.blk id) acc ⟨rfl, hh⟩
   ·rename_i hid
    obtain ⟨rfl, rfl⟩ := Prod.mk.inj (Option.some.inj h)
    simp only [AExit.to, Exit.inBlock, hid, if_false]
    exact ⟨rfl, hh⟩
  ·rename_i σ1 h1
   obtain ⟨rfl, rfl⟩ := Prod.mk.inj (Option.some.inj h)
   refine wp_block (wp_mono (ih σ _ _ h1 S β a w hI) ?_)
   rintro ex a1 w1 ⟨rfl, hh⟩
   exact Ends.squash hI (keep.blk id) acc ⟨rfl, hh⟩
  ·rename_i r hne hne2
   refine wp_block (wp_mono (ih σ e σ' h S β a w hI) ?_)
   rintro ex a1 w1 ⟨rfl, hh⟩
   cases e with
   | normal => exact absurd h (hne2 σ')
   | exit id' => exact absurd h (hne id' σ')
   | ret => exact ⟨rfl, hh⟩
 | loop c ih =>
  intro σ e σ' h S β a w hI
  simp only [aeval] at h
  obtain ⟨β1, hI1, hE1⟩ := (hI.forget (keep.loop (ckey c))).squash (keep.loop (ckey c)) acc (L := σ.heap.length) (Nat.le_refl _)
  exact aloop_sound (fun σ e σ' hh => ih σ e σ' hh) n _ e σ' h S β hI.heap.len w S β1 a w hI1 (hE1 S β w hI.heap.len (Ext.refl _ _ _))
 | exit id =>
  intro σ e σ' h S β a w hI
  simp only [aeval, Option.some.injEq, Prod.mk.injEq] at h
  obtain ⟨rfl, rfl⟩ := h
  exact wp_exit ⟨rfl, S, β, hI, Ext.refl _ _ _⟩
 | ret =>
  intro σ e σ' h S β a w hI
  simp only [aeval, Option.some.injEq, Prod.mk.injEq] at h
  obtain ⟨rfl, rfl⟩ := h
  exact wp_ret ⟨rfl, S, β, hI, Ext.refl _ _ _⟩
 | _ => intro σ e σ' h; simp [aeval] at h
def oneResult (tmps : Array Value) : ResultVar → Sem Value
 | .tmp t => pure (tmps.getD t undef)
 | .cell x t => do loadVar t (← asAddr (tmps.getD x undef))
theorem resultD_sound {P : Program} {T : Nat → Option TI} (hT : ∀ t i, T t = some i → tiOf P t = some i) {S : Nat → Nat → Prop} {β : Blocks} {σ : St} {a : Act} {w : World} (hI : Inv S β σ a w) : ∀ (rs : List ResultVar) (ds : List D), allM (resultD T σ) rs = some ds →
  ∃ vs : List Value, (rs.mapM (oneResult a.tmps)).run P w = .ok vs w ∧ vs.length = ds.length ∧ ∀ (i : Nat) v d, vs[i]? = some v → ds[i]? = some d → RelD S β w v d
 | [], ds, h => by simp [allM] at h; subst h; exact ⟨[], rfl, rfl, fun i v d h => by simp at h⟩
 | r :: rs, ds, h => by
  simp only [allM] at h
  split at h
  ·rename_i d ds' hd hds
   cases h
   obtain ⟨vs, h1, h2, h3⟩ := resultD_sound hT hI rs ds' hds
   have one : ∃ v, (oneResult a.tmps r).run P w = .ok v w ∧ RelD S β w v d := by
    cases r with
    | tmp t =>
     simp only [resultD, Option.some.injEq] at hd
     subst hd
     exact ⟨_, rfl, hI.ev (.tmp t)⟩
    | cell x t =>
     simp only [resultD] at hd
     split at hd
     ·rename_i i hi
      obtain ⟨u, h4, h5⟩ := loadD_sound hI.heap (hT _ _ hi) hd (hI.ev (.tmp x))
      refine ⟨u, ?_, h5⟩
      have hp : ∃ ad, a.tmps.getD x undef = .pointer (some ad) := by
       have hx := hI.ev (.tmp x)
       simp only [Act.eval] at hx
       generalize a.tmps.getD x undef = v at hx
       simp only [St.ev] at hx
       generalize σ.tmps.getD x D.undef = p at hx hd
       cases hx <;> first | exact ⟨_, rfl⟩ | (simp [loadD] at hd; done) | skip
       rename_i y hy
       cases y <;> first | (simp [loadD] at hd; done) | (cases hy; exact ⟨_, rfl⟩)
      obtain ⟨ad, had⟩ := hp
      simp only [Act.eval, had, Instr.loadAt, Instr.sureAddr, Sem.run_bind, Sem.run_pure, Result.andThen_ok] at h4
      simp only [oneResult, had, asAddr, Sem.run_bind, Sem.run_pure, Result.andThen_ok]
      exact h4
     ·cases hd
   obtain ⟨v, h4, h5⟩ := one
   refine ⟨v :: vs, ?_, by simp [h2], fun i u x hu hx => ?_⟩
   ·simp only [List.mapM_cons, Sem.run_bind, h4, h1, Result.andThen_ok, Sem.run_pure]
   ·cases i with
    | zero => simp at hu hx; subst hu; subst hx; exact h5
    | succ i => simp at hu hx; exact h3 i u x hu hx
  ·cases h
theorem resultsD_sound {P : Program} {T : Nat → Option TI} (hT : ∀ t i, T t = some i → tiOf P t = some i) {S : Nat → Nat → Prop} {β : Blocks} {σ : St} {a : Act} {w : World} (hI : Inv S β σ a w) {fn : Func} {d : D} (h : resultsD T σ fn.results.toList = some d) :
  ∃ v, (results fn a.tmps).run P w = .ok v w ∧ RelD S β w v d := by
 have hrun : ∀ vs : List Value, (fn.results.toList.mapM (oneResult a.tmps)).run P w = .ok vs w → (results fn a.tmps).run P w = .ok (if h : vs.toArray.size = 1 then vs.toArray[0] else .tuple vs.toArray) w := by
  intro vs hvs
  unfold results
  rw [Array.mapM_eq_mapM_toList]
  simp only [Sem.run_bind, Sem.run_map]
  have : ∀ (f g : ResultVar → Sem Value), f = g → (fn.results.toList.mapM f) = fn.results.toList.mapM g := fun f g e => by rw [e]
  rw [this _ (oneResult a.tmps) (by funext x; cases x <;> rfl), hvs]
  rfl
 unfold resultsD at h
 split at h
 ·rename_i d0 hds
  cases h
  obtain ⟨vs, h1, h2, h3⟩ := resultD_sound hT hI _ _ hds
  match vs, h2 with
  | [v], _ =>
   exact ⟨v, by rw [hrun [v] h1]; rfl, h3 0 v d rfl rfl⟩
 ·rename_i ds hne hds
  cases h
  obtain ⟨vs, h1, h2, h3⟩ := resultD_sound hT hI _ _ hds
  refine ⟨.tuple vs.toArray, ?_, rel_mkTuple (by simpa using h2) (fun i v d hv hd => h3 i v d (by simpa using hv) hd)⟩
  rw [hrun vs h1]
  have : ¬ vs.toArray.size = 1 := by
   intro h1
   have h1' : vs.length = 1 := by simpa using h1
   match ds, h2, hne with
   | [d], _, hne => exact hne d rfl
   | [], h, _ => have h' : vs.length = 0 := h; omega
   | _ :: _ :: l, h, _ => have h' : vs.length = l.length + 1 + 1 := h; omega
  rw [dif_neg this]
 ·cases h
def OSound (DR : Prop) (P : Program) (E : Env) : Prop := ∀ f F, E.ora f = some F → Is P f ∧ ∀ vs r, F vs = some r → ∀ S w us, RelL S [] w us (vs.map .v) → (∀ b i, S b i → b < w.heap.size) → Glob S w →
 Calls P f us w fun e w' => ∃ v S', e = .returned v ∧ Ext DR S [] w S' [] w' ∧ HInv S' [] w' [] ∧ RelV S' w' v r
def DSound (DR : Prop) (P : Program) (E : Env) : Prop := ∀ f F, E.oraD f = some F → Is P f ∧ ∀ ds h d h', F ds h = some (d, h') → ∀ S β w vs, RelL S β w vs ds → HInv S β w h →
 Calls P f vs w fun e w' => ∃ v S' β', e = .returned v ∧ Ext DR S β w S' β' w' ∧ HInv S' β' w' h' ∧ RelD S' β' w' v d
structure Good (DR : Prop) (P : Program) (E : Env) : Prop where
 mixed : P.follows .mixedOrders = true
 types : ∀ t i, E.T t = some i → tiOf P t = some i
 names : ∀ (f : Nat) fn, P.funcs[f]? = some fn → (fn.name == "runtime.NumGoroutine") = false
 ora : OSound DR P E
 oraD : DSound DR P E
theorem run_sound {P : Program} {E : Env} (hG : Good DR P E) : ∀ n, CSound DR P (run P E n) := by
 intro n
 induction n with
 | zero => intro f ds h d h' hd; simp [run] at hd
 | succ n ih =>
  intro f ds h d h' hd
  simp only [run] at hd
  split at hd
  ·cases hd
  ·rename_i fn hfn
   split at hd
   ·rename_i F hF
    obtain ⟨hex, hc⟩ := hG.oraD f F hF
    exact ⟨hex, fun S β w vs hrel hi => hc ds h d h' hd S β w vs hrel hi⟩
   split at hd
   ·rename_i F hF
    split at hd
    ·rename_i vs hvs
     obtain ⟨r, hr, he⟩ := Option.map_eq_some_iff.1 hd
     obtain ⟨rfl, rfl⟩ := Prod.mk.inj he
     obtain ⟨hex, ho⟩ := hG.ora f F hF
     refine ⟨hex, fun S β w us hrel hi => ?_⟩
     have hvs' := pures_spec hvs
     have hrel' : RelL S [] w us (vs.map .v) := by
      rw [← hvs']
      refine ⟨by simpa using hrel.1, fun i v d h1 h2 => ?_⟩
      have h2' := h2
      rw [hvs', List.getElem?_map] at h2'
      obtain ⟨x, hx, rfl⟩ := Option.map_eq_some_iff.1 h2'
      rw [List.getElem?_map] at h2
      obtain ⟨y, hy, hyx⟩ := Option.map_eq_some_iff.1 h2
      have := (hrel.2 i v y h1 hy).unt
      rw [hyx] at this
      exact .v _ _ this.of_v
     refine (ho vs r hr S w us hrel' hi.sb hi.gl).mono ?_
     rintro e w1 ⟨v, S1, rfl, hE, hI, hR⟩
     have hin : ∀ b i, S1 b i → S b i ∨ w.heap.size ≤ b := by
      intro b i hs
      rcases hE.stay b i hs with g | g | ⟨r, c, k, g⟩
      ·exact .inl g
      ·exact .inr g
      ·simp at g
     obtain ⟨e1, e2⟩ := back_from (S' := S1) (h1 := []) hi hE (fun _ _ h => h) (fun b i hs => (hE.keeps b i hs).1) hin hI.sb
     exact ⟨v, S1, β, rfl, e1, e2, .v _ _ hR⟩
    ·cases hd
   ·split at hd
    ·cases hd
    ·rename_i c hc
     refine ⟨⟨fn, hfn, by rw [hc]; rfl, hG.names f fn hfn⟩, fun S β w us hrel hi => ?_⟩
     have hstart : Inv S β ⟨ds ++ List.replicate (fn.ntmps - ds.length) U, h⟩ { tmps := us ++ Array.replicate (fn.ntmps - us.size) undef, defers := [] } w := by
      refine ⟨by simp [hrel.1], fun i v d h1 h2 => ?_, hi, rfl⟩
      rw [Array.getElem?_append] at h1
      simp only [List.getElem?_append] at h2
      split at h1
      ·rename_i hlt
       rw [if_pos (by rw [← hrel.1]; exact hlt)] at h2
       exact hrel.2 i v d h1 h2
      ·rename_i hlt
       rw [if_neg (by rw [← hrel.1]; exact hlt)] at h2
       have e1 := (Array.mem_replicate.1 (Array.mem_of_getElem? h1)).2
       have e2 := (List.mem_replicate.1 (List.mem_of_getElem? h2)).2
       subst e1 e2
       exact .v _ _ (.tuple _ _ rfl (fun i v x hv => by simp at hv))
     have fin : ∀ (e : AExit) (σ : St), aeval { E with rowM := E.rowF f, untS := E.untF f } (run P E n) (E.keep f) (E.acc f) n c ⟨ds ++ List.replicate (fn.ntmps - ds.length) U, h⟩ = some (e, σ) → (e = .normal ∨ e = .ret) → (resultsD E.T σ fn.results.toList).map (·, σ.heap) = some (d, h') →
       Calls P f us w fun e w' => ∃ v S' β', e = .returned v ∧ Ext DR S β w S' β' w' ∧ HInv S' β' w' h' ∧ RelD S' β' w' v d := by
      intro e σ h1 he h2
      obtain ⟨r, hr, he2⟩ := Option.map_eq_some_iff.1 h2
      obtain ⟨rfl, rfl⟩ := Prod.mk.inj he2
      refine calls_of_wp hfn hc (wp_mono (aeval_sound (E := { E with rowM := E.rowF f, untS := E.untF f }) hG.mixed hG.types ih _ _ n c _ e σ h1 S β _ w hstart) ?_)
      rintro ex a' w' ⟨rfl, S', β', hI', hE'⟩
      obtain ⟨v, h3, h4⟩ := resultsD_sound hG.types hI' hr
      rcases he with rfl | rfl
      ·exact ⟨hI'.defers, v, h3, v, S', β', rfl, hE', hI'.heap, h4⟩
      ·exact ⟨hI'.defers, v, h3, v, S', β', rfl, hE', hI'.heap, h4⟩
     split at hd
     ·rename_i σ h1; exact fin _ σ h1 (.inl rfl) hd
     ·rename_i σ h1; exact fin _ σ h1 (.inr rfl) hd
     ·cases hd
theorem runV_sound {P : Program} {E : Env} (hG : Good DR P E) {n : Nat} {f : FuncId} {xs : List V} {r : V} (h : runV P E n f xs = some r) {S : Nat → Nat → Prop} {w : World} {vs : Array Value} (hS : ∀ b i, S b i → b < w.heap.size) (hgl : Glob S w)
  (hv : RelL S [] w vs (xs.map .v)) : Calls P f vs w fun e w' => ∃ v S', e = .returned v ∧ RelV S' w' v r ∧ RowKit.Below w.heap.size w w' ∧ Keeps S w S' w' := by
 unfold runV at h
 split at h
 ·rename_i d h' hrun
  refine ((run_sound hG n f _ [] d h' hrun).2 S [] w vs hv (hinv_nil hS hgl)).mono ?_
  rintro e w' ⟨v, S', β', rfl, hE, hI, hR⟩
  refine ⟨v, _, rfl, frz_sound hI 6 _ _ _ h hR, ⟨hE.os, hE.tape, hE.output, hE.size, fun k hk => hE.rest k hk (fun r c q hr => by simp at hr)⟩, fun b i hs => ⟨.inl (hE.keeps b i hs).1, (hE.keeps b i hs).2⟩⟩
 ·cases h
end Go.Abs
