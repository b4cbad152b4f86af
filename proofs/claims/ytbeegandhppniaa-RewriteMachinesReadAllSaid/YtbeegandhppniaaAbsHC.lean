import Derived.Test.YtbeegandhppniaaAbsHT
namespace Go.Abs
set_option linter.unusedVariables false
set_option linter.unusedSimpArgs false
set_option linter.unnecessarySimpa false
variable {DR : Prop}
def CallT (DR : Prop) (P : Program) (f : FuncId) (ds : List D) (h : List AObj) (Q : D → List AObj → Prop) : Prop := ∀ S β w vs, RelL S β w vs ds → HInv S β w h →
 Calls P f vs w fun e w' => ∃ d h' v S' β', Q d h' ∧ e = .returned v ∧ Ext DR S β w S' β' w' ∧ HInv S' β' w' h' ∧ RelD S' β' w' v d
theorem CallT.mono {P : Program} {f : FuncId} {ds : List D} {h : List AObj} {Q Q' : D → List AObj → Prop} (hh : CallT DR P f ds h Q) (hq : ∀ d h', Q d h' → Q' d h') : CallT DR P f ds h Q' := fun S β w vs hr hi =>
 (hh S β w vs hr hi).mono fun _ _ ⟨d, h', v, S', β', q, r⟩ => ⟨d, h', v, S', β', hq d h' q, r⟩
def startIn (P : Program) (f : Nat) (ds : List D) (h : List AObj) : St := match P.funcs[f]? with
 | some fn => ⟨ds ++ List.replicate (fn.ntmps - ds.length) U, h⟩
 | none => ⟨[], []⟩
theorem callT_of_ht {P : Program} {f : Nat} {fn : Func} {c : Code} {T : Nat → Option TI} (hfn : P.funcs[f]? = some fn) (hc : fn.body = some c) (hT : ∀ t i, T t = some i → tiOf P t = some i) {ds : List D} {h : List AObj} {Qc : D → List AObj → Prop}
  (ht : Ht DR P (bodyOf P f) (startIn P f ds h) (fun e σ => (e = .normal ∨ e = .ret) ∧ ∃ d, resultsD T σ (resOf P f) = some d ∧ Qc d σ.heap)) : CallT DR P f ds h Qc := by
 intro S β w us hrel hi
 have hb : bodyOf P f = c := by simp only [bodyOf, hfn, hc]
 have hs : startIn P f ds h = ⟨ds ++ List.replicate (fn.ntmps - ds.length) U, h⟩ := by simp only [startIn, hfn]
 have hres : resOf P f = fn.results.toList := by simp only [resOf, hfn]
 rw [hb, hs] at ht
 have hstart : Inv S β ⟨ds ++ List.replicate (fn.ntmps - ds.length) U, h⟩ { tmps := us ++ Array.replicate (fn.ntmps - us.size) undef, defers := [] } w := by
  refine ⟨by simp [hrel.1], fun i v d h1 h2 => ?_, hi, rfl⟩
  rw [Array.getElem?_append] at h1
  simp only [List.getElem?_append] at h2
  split at h1
  ·rename_i hlt
   rw [if_pos (by rw [← hrel.1]; exact hlt)] at h2
   exact hrel.2 i v d h1 h2
  ·rename_i hlt
   rw [if_neg (by rw [← hrel.1]; exact hlt)] at h2
   have e1 := (Array.mem_replicate.1 (Array.mem_of_getElem? h1)).2
   have e2 := (List.mem_replicate.1 (List.mem_of_getElem? h2)).2
   subst e1 e2
   exact .v _ _ (.tuple _ _ rfl (fun i v x hv => by simp at hv))
 refine calls_of_wp hfn hc (wp_mono (ht S β _ w hstart) ?_)
 rintro ex a' w' ⟨e, σ, ⟨he, d, hd, hq⟩, rfl, S1, β1, hI1, hE1⟩
 rw [hres] at hd
 obtain ⟨v, h3, h4⟩ := resultsD_sound hT hI1 hd
 rcases he with rfl | rfl
 ·exact ⟨hI1.defers, v, h3, d, _, v, S1, β1, hq, rfl, hE1, hI1.heap, h4⟩
 ·exact ⟨hI1.defers, v, h3, d, _, v, S1, β1, hq, rfl, hE1, hI1.heap, h4⟩
def callAt (c : Code) (i : Nat) : Option (FuncId × Tmp × List Operand) := match c with
 | .region _ ops false => match ops[i]? with
  | some o => match o.op, o.dst, o.guard with
   | .call c, some t, none => match c.callee with
    | .value (.func f) => some (f, t, c.args.toList)
    | _ => none
   | _, _, _ => none
  | none => none
 | _ => none
variable {P : Program} {X : Cx} {c : Code} {σ : St} {Q : Post}
theorem seg_sound (H : Hx DR P X) {ops : Array Oper} {σ1 : St} {rest : List Nat} {R : Exit → Act → World → Prop} : ∀ (k i : Nat) {S : Nat → Nat → Prop} {β : Blocks} {σ : St} {a : Act} {w : World}, aseg X ops.toList k i σ = some σ1 → Inv S β σ a w →
  (∀ S' β' a' w', Inv S' β' σ1 a' w' → Ext DR S β w S' β' w' → wpOps P ops R rest a' w') → wpOps P ops R (List.range' i k ++ rest) a w
 | 0, i, S, β, σ, a, w, h, hI, hk => by
  simp only [aseg, Option.some.injEq] at h
  subst h
  exact hk S β a w hI (Ext.refl _ _ _)
 | k + 1, i, S, β, σ, a, w, h, hI, hk => by
  simp only [aseg] at h
  split at h
  ·rename_i o ho
   split at h
   ·rename_i σ2 h2
    rw [List.range'_succ, List.cons_append, wpOps_cons]
    exact aop_sound H.types H.calls (by simpa using ho) hI h2 (fun S1 β1 a1 w1 hI1 hE1 => seg_sound H k (i + 1) h hI1 fun S' β' a' w' hI' hE' => hk S' β' a' w' hI' (hE1.trans hE'))
   ·cases h
  ·cases h
theorem Ht.regionCall (H : Hx DR P X) (i : Nat) {f : FuncId} {t : Tmp} {args : List Operand} (hc : callAt c i = some (f, t, args)) (hIs : Is P f) (σ1 : St) (h1 : aseg X (opl c) i 0 σ = some σ1) {Qc : D → List AObj → Prop}
  (hT : CallT DR P f (argsD σ1.ev args) σ1.heap Qc) (hpost : ∀ d h', Qc d h' → Ops X (opl c) (i + 1) (σ1.put (some t) d h') (Q .normal)) : Ht DR P c σ Q := by
 unfold callAt at hc
 split at hc
 case h_2 => cases hc
 rename_i id ops
 split at hc
 case h_2 => cases hc
 rename_i o ho
 split at hc
 case h_2 => cases hc
 rename_i cl t' hop hdst hg
 split at hc
 case h_2 => cases hc
 rename_i f' hcal
 cases hc
 simp only [opl] at h1 hpost
 intro S β a w hI
 refine wp_region ?_
 have hlt : i < ops.size := (Array.getElem?_eq_some_iff.1 ho).1
 have hrange : List.range ops.size = List.range' 0 i ++ i :: List.range' (i + 1) (ops.size - (i + 1)) := by
  rw [List.range_eq_range', show ops.size = i + (1 + (ops.size - (i + 1))) by omega, ← List.range'_append_1, Nat.zero_add, Nat.add_comm 1, List.range'_succ]
  congr 3
  omega
 rw [hrange]
 refine seg_sound H i 0 h1 hI fun S1 β1 a1 w1 hI1 hE1 => ?_
 rw [wpOps_cons]
 unfold wpOp
 simp only [ho]
 rw [if_pos (by simp [Region.wanted, hg])]
 refine .inl ?_
 obtain ⟨callee, cargs, cts⟩ := cl
 simp only at hcal hT
 subst hcal
 have hargs : RelL S1 β1 w1 (cargs.map a1.eval) (argsD σ1.ev cargs.toList) := relL_map (fun x => hI1.ev x) cargs
 refine wp_of_enter (f := f) (args := cargs.map a1.eval) (w' := w1) (by simp [execOp, hop, resolve, Deferred.ofValue, invoke, Act.eval, run_callFunc hIs]) (hT S1 β1 w1 _ hargs hI1.heap |>.mono ?_) (R := fun v w'' => ∃ d h' S' β', Qc d h' ∧ Ext DR S1 β1 w1 S' β' w'' ∧ HInv S' β' w'' h' ∧ RelD S' β' w'' v d) ?_
 ·rintro e w'' ⟨d, h', v, S', β', hq, rfl, hr⟩
  exact ⟨v, rfl, d, h', S', β', hq, hr⟩
 ·rintro v w'' ⟨d, h', S', β', hq, e1, e2, e3⟩
  have hI2 := hI1.put e1 e2 e3 (some t)
  obtain ⟨σ3, h3, h4⟩ := hpost d h' hq
  rw [hdst]
  refine step_sound H.types H.calls _ hI2 (σ' := σ3) ?_ (fun S3 β3 a3 w3 hI3 hE3 => ⟨.normal, σ3, h4, rfl, S3, β3, hI3, (hE1.trans e1).trans hE3⟩)
  have hl : (ops.toList.drop (i + 1)).length = ops.size - (i + 1) := by simp
  rw [← hl, aidx_range (ops.toList.drop (i + 1)) (i + 1) _ (fun q o hq => by
   rw [List.getElem?_drop] at hq
   rw [← Array.getElem?_toList]; exact hq)]
  exact h3
def OpsU (X : Cx) (ops : List Oper) (j i : Nat) (σ : St) (Q : St → Prop) : Prop := ∃ σ1, aseg X ops (j - i) i σ = some σ1 ∧ Q σ1
theorem aseg_add (X : Cx) (ops : List Oper) (k' : Nat) : ∀ (k i : Nat) (σ : St), aseg X ops (k + k') i σ = (aseg X ops k i σ).bind (aseg X ops k' (i + k))
 | 0, i, σ => by simp [aseg]
 | k + 1, i, σ => by
  rw [show k + 1 + k' = (k + k') + 1 by omega]
  simp only [aseg]
  split
  ·split
   ·rw [aseg_add X ops k' k (i + 1), show i + 1 + k = i + (k + 1) by omega]
   ·rfl
  ·rfl
theorem OpsU.done {ops : List Oper} {i : Nat} {R : St → Prop} (h : R σ) : OpsU X ops i i σ R := ⟨σ, by rw [Nat.sub_self]; rfl, h⟩
theorem OpsU.seg {ops : List Oper} {R : St → Prop} {i j : Nat} (k i' : Nat) (hi : i + k = i') (hj : i' ≤ j) (σ1 : St) (h1 : aseg X ops k i σ = some σ1) (h : OpsU X ops j i' σ1 R) : OpsU X ops j i σ R := by
 obtain ⟨σ2, h2, h3⟩ := h
 refine ⟨σ2, ?_, h3⟩
 subst hi
 rw [show j - i = k + (j - (i + k)) by omega, aseg_add, h1]
 exact h2
theorem OpsU.seg' {ops : List Oper} {R : St → Prop} {i j : Nat} (k i' : Nat) (e : (i + k == i' && (decide (i' ≤ j) && (aseg X ops k i σ).isSome)) = true) (h : OpsU X ops j i' (asegD X ops k i σ) R) : OpsU X ops j i σ R := by
 simp only [Bool.and_eq_true, beq_iff_eq, decide_eq_true_eq] at e
 obtain ⟨σ1, h1⟩ := Option.isSome_iff_exists.1 e.2.2
 refine OpsU.seg k i' e.1 e.2.1 σ1 h1 ?_
 unfold asegD at h
 rw [h1] at h
 exact h
theorem OpsU.one' {ops : List Oper} {R : St → Prop} {i j : Nat} {r : List AObj → Option (D × List AObj)} {d : List AObj → D} {h' : List AObj → List AObj} (i' : Nat) (H : ∀ h, h = σ.heap → r h = some (d h, h' h)) (hj : (i + 1 == i' && decide (i' ≤ j)) = true) (h1 : effAt X ops i σ = r σ.heap)
  (h : OpsU X ops j i' (putAt ops i σ (d σ.heap) (h' σ.heap)) R) : OpsU X ops j i σ R := by
 simp only [Bool.and_eq_true, beq_iff_eq, decide_eq_true_eq] at hj
 have h2 := H _ rfl
 rw [h2] at h1
 refine OpsU.seg 1 i' hj.1 hj.2 (putAt ops i σ (d σ.heap) (h' σ.heap)) ?_ h
 unfold effAt at h1
 unfold putAt
 simp only [aseg]
 split at h1
 ·rename_i o ho
  simp only [ho, aop, h1]
 ·cases h1
theorem Ht.regionCall' (H : Hx DR P X) (i : Nat) {f : FuncId} {t : Tmp} {args : List Operand} (hc : callAt c i = some (f, t, args)) (hIs : Is P f) {Qc : D → List AObj → Prop}
  (h1 : OpsU X (opl c) i 0 σ fun σ1 => CallT DR P f (argsD σ1.ev args) σ1.heap Qc ∧ ∀ d h', Qc d h' → Ops X (opl c) (i + 1) (σ1.put (some t) d h') (Q .normal)) : Ht DR P c σ Q := by
 obtain ⟨σ1, h1, h2, h3⟩ := h1
 exact Ht.regionCall H i hc hIs σ1 h1 h2 h3
end Go.Abs
