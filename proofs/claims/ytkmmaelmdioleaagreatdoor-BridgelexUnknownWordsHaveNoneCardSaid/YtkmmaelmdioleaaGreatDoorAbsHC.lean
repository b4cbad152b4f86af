import Derived.Test.YtkmmaelmdioleaaGreatDoorAbsG
import Derived.Test.YtkmmaelmdioleaaGreatDoorAbsW
namespace Go.Abs
set_option linter.unusedVariables false
set_option linter.unusedSimpArgs false
set_option linter.unnecessarySimpa false
variable {DR : Prop}
def Ht (DR : Prop) (P : Program) (c : Code) (σ : St) (Q : Post) : Prop := ∀ S β a w, Inv S β σ a w → c.wp P (fun ex a' w' => ∃ e σ', Q e σ' ∧ Ends DR S β w e σ' ex a' w') a w
structure Hx (DR : Prop) (P : Program) (X : Cx) : Prop where
 mixed : P.follows .mixedOrders = true
 types : ∀ t i, X.E.T t = some i → tiOf P t = some i
 calls : CSound DR P X.Γ
variable {P : Program} {X : Cx} {c : Code} {σ : St} {Q Q' : Post}
theorem Ht.mono (h : Ht DR P c σ Q) (hq : ∀ e σ', Q e σ' → Q' e σ') : Ht DR P c σ Q' := fun S β a w hI => wp_mono (h S β a w hI) fun _ _ _ ⟨e, σ', h1, h2⟩ => ⟨e, σ', hq e σ' h1, h2⟩
theorem Ht.of_wp (H : Hx DR P X) (h : Wp X c σ Q) : Ht DR P c σ Q := by
 obtain ⟨e, σ', h1, h2⟩ := h
 intro S β a w hI
 exact wp_mono (aeval_sound H.mixed H.types H.calls X.keep X.acc X.n c σ e σ' h1 S β a w hI) fun _ _ _ hh => ⟨e, σ', h2, hh⟩
theorem Ht.region (H : Hx DR P X) (hc : regionOk X.E c = true) (h : Ops X (opl c) 0 σ (Q .normal)) : Ht DR P c σ Q := .of_wp H (Wp.region hc h)
theorem Ht.skip (hc : c = .skip) (h : Q .normal σ) : Ht DR P c σ Q := by
 subst hc; exact fun S β a w hI => wp_skip ⟨.normal, σ, h, rfl, S, β, hI, Ext.refl _ _ _⟩
theorem Ht.ret (hc : c = .ret) (h : Q .ret σ) : Ht DR P c σ Q := by
 subst hc; exact fun S β a w hI => wp_ret ⟨.ret, σ, h, rfl, S, β, hI, Ext.refl _ _ _⟩
theorem Ht.exit {id : Nat} (hc : c = .exit id) (h : Q (.exit id) σ) : Ht DR P c σ Q := by
 subst hc; exact fun S β a w hI => wp_exit ⟨.exit id, σ, h, rfl, S, β, hI, Ext.refl _ _ _⟩
def seqH (DR : Prop) (P : Program) (b : Code) (Q : Post) : Post
 | .normal, σ => Ht DR P b σ Q
 | e, σ => Q e σ
theorem Ht.seq (hc : isSeq c = true) (h : Ht DR P (cL c) σ (seqH DR P (cR c) Q)) : Ht DR P c σ Q := by
 cases c <;> first | (cases hc; done) | skip
 rename_i x y
 intro S β a w hI
 refine wp_seq (wp_mono (h S β a w hI) ?_)
 rintro ex a1 w1 ⟨e, σ1, hq, rfl, S1, β1, hI1, hE1⟩
 cases e with
 | normal => exact wp_mono (hq S1 β1 a1 w1 hI1) fun _ _ _ ⟨e2, σ2, q2, hh⟩ => ⟨e2, σ2, q2, hh.ext hE1⟩
 | exit id => exact ⟨.exit id, σ1, hq, rfl, S1, β1, hI1, hE1⟩
 | ret => exact ⟨.ret, σ1, hq, rfl, S1, β1, hI1, hE1⟩
theorem seqH.n {b : Code} (h : Ht DR P b σ Q) : seqH DR P b Q .normal σ := h
theorem Ht.cond (x : Bool) (hc : isCond c = true) (hv : σ.ev (condOp c) = .v (.bool x)) (h1 : x = true → Ht DR P (cL c) σ Q) (h2 : x = false → Ht DR P (cR c) σ Q) : Ht DR P c σ Q := by
 cases c <;> first | (cases hc; done) | skip
 rename_i o y z
 intro S β a w hI
 have ho := hI.ev o
 have hv : σ.ev o = .v (.bool x) := hv
 rw [hv] at ho
 have hc' : a.eval o = .bool x := by
  generalize a.eval o = v at ho
  cases ho.of_v; rfl
 cases x with
 | true => exact wp_cond_true hc' (h1 rfl S β a w hI)
 | false => exact wp_cond_false hc' (h2 rfl S β a w hI)
def blkH (id : Nat) (Q : Post) : Post
 | .normal, σ => Q .normal σ
 | .exit id', σ => if id' = id then Q .normal σ else Q (.exit id') σ
 | .ret, σ => Q .ret σ
theorem blkH.x {id : Nat} (h : Q .normal σ) : blkH id Q (.exit id) σ := by simp only [blkH, if_true]; exact h
theorem blkH.y {id id' : Nat} (hne : (id' == id) = false) (h : Q (.exit id') σ) : blkH id Q (.exit id') σ := by simp only [blkH, if_neg (by simpa using hne)]; exact h
theorem Ht.block (id : Nat) (hc : blockId c = some id) (h : Ht DR P (cL c) σ (blkH id Q)) : Ht DR P c σ Q := by
 cases c <;> first | (cases hc; done) | skip
 cases hc
 intro S β a w hI
 refine wp_block (wp_mono (h S β a w hI) ?_)
 rintro ex a1 w1 ⟨e, σ1, hq, rfl, S1, β1, hI1, hE1⟩
 cases e with
 | normal => exact ⟨.normal, σ1, hq, rfl, S1, β1, hI1, hE1⟩
 | exit id' =>
  simp only [blkH] at hq
  by_cases hid : id' = id
  ·subst hid
   rw [if_pos rfl] at hq
   simp only [AExit.to, Exit.inBlock, if_true]
   exact ⟨.normal, σ1, hq, rfl, S1, β1, hI1, hE1⟩
  ·rw [if_neg hid] at hq
   simp only [AExit.to, Exit.inBlock, hid, if_false]
   exact ⟨.exit id', σ1, hq, rfl, S1, β1, hI1, hE1⟩
 | ret => exact ⟨.ret, σ1, hq, rfl, S1, β1, hI1, hE1⟩
def lpH (I : Nat → St → Prop) (m : Nat) (Q : Post) : Post
 | .normal, σ => ∃ k, k < m ∧ I k σ
 | e, σ => Q e σ
theorem Ht.loop (I : Nat → St → Prop) (n : Nat) (hc : isLoop c = true) (h0 : I n σ) (step : ∀ m σ, I m σ → Ht DR P (cL c) σ (lpH I m Q)) : Ht DR P c σ Q := by
 cases c <;> first | (cases hc; done) | skip
 rename_i b
 intro S β a w hI
 refine wp_loop_ghost (fun n a' w' => ∃ σ1 S1 β1, I n σ1 ∧ Inv S1 β1 σ1 a' w' ∧ Ext DR S β w S1 β1 w') n ⟨σ, S, β, h0, hI, Ext.refl _ _ _⟩ ?_
 rintro m a' w' ⟨σ1, S1, β1, h1, hI1, hE1⟩
 refine wp_mono (step m σ1 h1 S1 β1 a' w' hI1) ?_
 rintro ex a2 w2 ⟨e, σ2, hq, rfl, S2, β2, hI2, hE2⟩
 cases e with
 | normal =>
  obtain ⟨k, hk, hi⟩ := hq
  exact ⟨k, hk, σ2, S2, β2, hi, hI2, hE1.trans hE2⟩
 | exit id => exact ⟨.exit id, σ2, hq, rfl, S2, β2, hI2, hE1.trans hE2⟩
 | ret => exact ⟨.ret, σ2, hq, rfl, S2, β2, hI2, hE1.trans hE2⟩
theorem Ht.forget (ks : List Nat) (h : Ht DR P c (Abs.forget ks σ) Q) : Ht DR P c σ Q := fun S β a w hI => h S β a w (hI.forget ks)
def opsOf : Code → Array Oper
 | .region _ ops _ => ops
 | _ => #[]
def isDrawn : Code → Bool
 | .region _ _ draw => draw
 | _ => false
def nextShape : Code → Option (Nat × Nat × Nat)
 | .region _ ops false => match ops.toList with
  | [o0, o1] => match o0.op, o0.dst, o0.guard, o1.op, o1.dst, o1.guard with
   | .next (.tmp it) false, some t, none, .extract (.tmp t') 0, some u, none => if t' = t then some (it, t, u) else none
   | _, _, _, _, _, _ => none
  | _ => none
 | _ => none
theorem Ht.next (H : Hx DR P X) {it t u r since last : Nat} {seen : List Nat} {m : D} {ks : List V} {vs : List D} (hc : nextShape c = some (it, t, u)) (hit : σ.tmps[it]? = some (.ptr r 0)) (hr : σ.heap[r]? = some (.iter m since seen last))
  (hkv : mapKV σ.heap m = some (ks, vs)) (hs : ks.length ≤ since) (hsl : since ≤ last) (ht : t < σ.tmps.length)
  (h0 : (∀ j, j < ks.length → j ∈ seen) → Q .normal ⟨(σ.tmps.set t (.v (.tuple [.bool false]))).set u (.v (.bool false)), σ.heap⟩)
  (h1 : ∀ j k d, j ∉ seen → ks[j]? = some k → vs[j]? = some d → Q .normal ⟨(σ.tmps.set t (mkTuple [.v (.bool true), .v k, d])).set u (.v (.bool true)), σ.heap.set r (.iter m since (seen ++ [j]) ks.length)⟩) : Ht DR P c σ Q := by
 unfold nextShape at hc
 split at hc
 case h_2 => cases hc
 rename_i id ops
 split at hc
 case h_2 => cases hc
 rename_i o0 o1 hops
 split at hc
 case h_2 => cases hc
 rename_i it' t' t2 u' e1 e2 e3 e4 e5 e6
 split at hc
 case isFalse => cases hc
 rename_i htt
 subst htt
 cases hc
 intro S β a w hI
 refine wp_region ?_
 have hsz : ops.size = 2 := by rw [← Array.length_toList, hops]; rfl
 have g0 : ops[0]? = some o0 := by rw [← Array.getElem?_toList, hops]; rfl
 have g1 : ops[1]? = some o1 := by rw [← Array.getElem?_toList, hops]; rfl
 rw [hsz]
 show wpOps P ops _ [0, 1] a w
 rw [wpOps_cons]
 -- behind the first operation
 have two : ∀ (d : D) (h' : List AObj) (S' : Nat → Nat → Prop) (w' : World) (v : Value) (b : Bool), Ext DR S β w S' β w' → HInv S' β w' h' → RelD S' β w' v d → (∃ tl, d = .v (.tuple (.bool b :: tl)) ∨ ∃ tl, d = .tuple (.v (.bool b) :: tl)) →
   Q .normal ⟨(σ.tmps.set t d).set u (.v (.bool b)), h'⟩ → wpOps P ops (fun ex a' w' => ∃ e σ', Q e σ' ∧ Ends DR S β w e σ' ex a' w') [1] (a.put (some t) v) w' := by
  intro d h' S' w' v b hE hi' hv hd hq
  have hI1 := hI.put hE hi' hv (some t)
  rw [wpOps_cons]
  refine aop_sound (E := X.E) (Γ := X.Γ) H.types H.calls g1 hI1 (σ' := ⟨(σ.tmps.set t d).set u (.v (.bool b)), h'⟩) ?_ (fun S2 β2 a2 w2 hI2 hE2 => ⟨.normal, _, hq, rfl, S2, β2, hI2, hE.trans hE2⟩)
  have hev : (σ.put (some t) d h').ev (.tmp t) = d := by simp [St.put, St.ev, List.getD, ht]
  simp only [aop, aeff, aguard, e6, e4, ares, hev]
  rcases hd with ⟨tl, rfl | ⟨tl, rfl⟩⟩
  ·simp [St.put, e5]
  ·simp [St.put, e5]
 have hp := (hI.get hit)
 obtain ⟨pv, hpv, hprel⟩ := hp
 have heval : a.eval (.tmp it) = pv := by
  simp only [Act.eval, Array.getD_eq_getD_getElem?, hpv, Option.getD_some]
 have hwant : Region.wanted o0 (yielded ops a.tmps) = true := by simp [Region.wanted, e3]
 unfold wpOp
 simp only [g0]
 rw [if_pos hwant]
 refine .inl ?_
 have hexec : ∀ v w', (Instr.next pv false o0.type).run P w = .ok v w' → (execOp a.eval o0).run P w = .ok (.value v) w' := by
  intro v w' hrun
  simp [execOp, e1, heval, hrun]
 rcases next_sound (DR := DR) (P := P) hI.heap hr hkv hs hsl o0.type hprel with ⟨ha, hrun⟩ | ⟨j, k, d, w', y, n1, n2, n3, hrun, hE, hi', hrel⟩
 ·refine wp_of_value (hexec _ _ hrun) ?_
  rw [e2]
  refine two (.v (.tuple [.bool false])) σ.heap S w _ false (Ext.refl _ _ _) hI.heap ?_ ⟨[], .inl rfl⟩ (h0 ha)
  exact .v _ _ (.tuple _ _ rfl fun i x y hx hy => by
   match i with
   | 0 => simp at hx hy; subst hx; subst hy; exact .bool _
   | i + 1 => simp at hx)
 ·refine wp_of_value (hexec _ _ hrun) ?_
  rw [e2]
  refine two _ _ S w' _ true hE hi' hrel ?_ (h1 j k d n1 n2 n3)
  unfold mkTuple
  split
  ·rename_i vs' hvs
   have := pures_spec hvs
   match vs', this with
   | x :: tl, h =>
    simp only [List.map_cons, List.cons.injEq, D.v.injEq] at h
    obtain ⟨rfl, _⟩ := h
    exact ⟨tl, .inl rfl⟩
  ·exact ⟨[], .inr ⟨_, rfl⟩⟩
variable {DR : Prop}
def CallT (DR : Prop) (P : Program) (f : FuncId) (ds : List D) (h : List AObj) (Q : D → List AObj → Prop) : Prop := ∀ S β w vs, RelL S β w vs ds → HInv S β w h →
 Calls P f vs w fun e w' => ∃ d h' v S' β', Q d h' ∧ e = .returned v ∧ Ext DR S β w S' β' w' ∧ HInv S' β' w' h' ∧ RelD S' β' w' v d
theorem CallT.mono {P : Program} {f : FuncId} {ds : List D} {h : List AObj} {Q Q' : D → List AObj → Prop} (hh : CallT DR P f ds h Q) (hq : ∀ d h', Q d h' → Q' d h') : CallT DR P f ds h Q' := fun S β w vs hr hi =>
 (hh S β w vs hr hi).mono fun _ _ ⟨d, h', v, S', β', q, r⟩ => ⟨d, h', v, S', β', hq d h' q, r⟩
def startIn (P : Program) (f : Nat) (ds : List D) (h : List AObj) : St := match P.funcs[f]? with
 | some fn => ⟨ds ++ List.replicate (fn.ntmps - ds.length) U, h⟩
 | none => ⟨[], []⟩
theorem callT_of_ht {P : Program} {f : Nat} {fn : Func} {c : Code} {T : Nat → Option TI} (hfn : P.funcs[f]? = some fn) (hc : fn.body = some c) (hT : ∀ t i, T t = some i → tiOf P t = some i) {ds : List D} {h : List AObj} {Qc : D → List AObj → Prop}
  (ht : Ht DR P (bodyOf P f) (startIn P f ds h) (fun e σ => (e = .normal ∨ e = .ret) ∧ ∃ d, resultsD T σ (resOf P f) = some d ∧ Qc d σ.heap)) : CallT DR P f ds h Qc := by
 intro S β w us hrel hi
 have hb : bodyOf P f = c := by simp only [bodyOf, hfn, hc]
 have hs : startIn P f ds h = ⟨ds ++ List.replicate (fn.ntmps - ds.length) U, h⟩ := by simp only [startIn, hfn]
 have hres : resOf P f = fn.results.toList := by simp only [resOf, hfn]
 rw [hb, hs] at ht
 have hstart : Inv S β ⟨ds ++ List.replicate (fn.ntmps - ds.length) U, h⟩ { tmps := us ++ Array.replicate (fn.ntmps - us.size) undef, defers := [] } w := by
  refine ⟨by simp [hrel.1], fun i v d h1 h2 => ?_, hi, rfl⟩
  rw [Array.getElem?_append] at h1
  simp only [List.getElem?_append] at h2
  split at h1
  ·rename_i hlt
   rw [if_pos (by rw [← hrel.1]; exact hlt)] at h2
   exact hrel.2 i v d h1 h2
  ·rename_i hlt
   rw [if_neg (by rw [← hrel.1]; exact hlt)] at h2
   have e1 := (Array.mem_replicate.1 (Array.mem_of_getElem? h1)).2
   have e2 := (List.mem_replicate.1 (List.mem_of_getElem? h2)).2
   subst e1 e2
   exact .v _ _ (.tuple _ _ rfl (fun i v x hv => by simp at hv))
 refine calls_of_wp hfn hc (wp_mono (ht S β _ w hstart) ?_)
 rintro ex a' w' ⟨e, σ, ⟨he, d, hd, hq⟩, rfl, S1, β1, hI1, hE1⟩
 rw [hres] at hd
 obtain ⟨v, h3, h4⟩ := resultsD_sound hT hI1 hd
 rcases he with rfl | rfl
 ·exact ⟨hI1.defers, v, h3, d, _, v, S1, β1, hq, rfl, hE1, hI1.heap, h4⟩
 ·exact ⟨hI1.defers, v, h3, d, _, v, S1, β1, hq, rfl, hE1, hI1.heap, h4⟩
variable {P : Program} {X : Cx} {c : Code} {σ : St} {Q : Post}
def OpsU (X : Cx) (ops : List Oper) (j i : Nat) (σ : St) (Q : St → Prop) : Prop := ∃ σ1, aseg X ops (j - i) i σ = some σ1 ∧ Q σ1
theorem aseg_add (X : Cx) (ops : List Oper) (k' : Nat) : ∀ (k i : Nat) (σ : St), aseg X ops (k + k') i σ = (aseg X ops k i σ).bind (aseg X ops k' (i + k))
 | 0, i, σ => by simp [aseg]
 | k + 1, i, σ => by
  rw [show k + 1 + k' = (k + k') + 1 by omega]
  simp only [aseg]
  split
  ·split
   ·rw [aseg_add X ops k' k (i + 1), show i + 1 + k = i + (k + 1) by omega]
   ·rfl
  ·rfl
theorem OpsU.done {ops : List Oper} {i : Nat} {R : St → Prop} (h : R σ) : OpsU X ops i i σ R := ⟨σ, by rw [Nat.sub_self]; rfl, h⟩
theorem OpsU.seg {ops : List Oper} {R : St → Prop} {i j : Nat} (k i' : Nat) (hi : i + k = i') (hj : i' ≤ j) (σ1 : St) (h1 : aseg X ops k i σ = some σ1) (h : OpsU X ops j i' σ1 R) : OpsU X ops j i σ R := by
 obtain ⟨σ2, h2, h3⟩ := h
 refine ⟨σ2, ?_, h3⟩
 subst hi
 rw [show j - i = k + (j - (i + k)) by omega, aseg_add, h1]
 exact h2
theorem OpsU.seg' {ops : List Oper} {R : St → Prop} {i j : Nat} (k i' : Nat) (e : (i + k == i' && (decide (i' ≤ j) && (aseg X ops k i σ).isSome)) = true) (h : OpsU X ops j i' (asegD X ops k i σ) R) : OpsU X ops j i σ R := by
 simp only [Bool.and_eq_true, beq_iff_eq, decide_eq_true_eq] at e
 obtain ⟨σ1, h1⟩ := Option.isSome_iff_exists.1 e.2.2
 refine OpsU.seg k i' e.1 e.2.1 σ1 h1 ?_
 unfold asegD at h
 rw [h1] at h
 exact h
theorem OpsU.one' {ops : List Oper} {R : St → Prop} {i j : Nat} {r : List AObj → Option (D × List AObj)} {d : List AObj → D} {h' : List AObj → List AObj} (i' : Nat) (H : ∀ h, h = σ.heap → r h = some (d h, h' h)) (hj : (i + 1 == i' && decide (i' ≤ j)) = true) (h1 : effAt X ops i σ = r σ.heap)
  (h : OpsU X ops j i' (putAt ops i σ (d σ.heap) (h' σ.heap)) R) : OpsU X ops j i σ R := by
 simp only [Bool.and_eq_true, beq_iff_eq, decide_eq_true_eq] at hj
 have h2 := H _ rfl
 rw [h2] at h1
 refine OpsU.seg 1 i' hj.1 hj.2 (putAt ops i σ (d σ.heap) (h' σ.heap)) ?_ h
 unfold effAt at h1
 unfold putAt
 simp only [aseg]
 split at h1
 ·rename_i o ho
  simp only [ho, aop, h1]
 ·cases h1
variable {DR : Prop}
theorem HInv.sub {S : Nat → Nat → Prop} {β : Blocks} {w : World} {h h2 : List AObj} (hi : HInv S β w h) (hl : h2.length = h.length) (back : ∀ (q : Nat) (y : AObj), h2[q]? = some y → y.live = true → h[q]? = some y) : HInv S β w h2 := by
 refine ⟨by rw [hl]; exact hi.len, fun q o b c k g1 g2 => ?_, fun q o b c k g1 l1 g2 => hi.lt q o b c k (back _ _ g1 l1) l1 g2, fun r1 r2 o1 o2 b c1 k1 c2 k2 g1 l1 g2 l2 g3 g4 => hi.inj r1 r2 o1 o2 b c1 k1 c2 k2 (back _ _ g1 l1) l1 (back _ _ g2 l2) l2 g3 g4,
  fun q o b c k i g1 l1 g2 => hi.own q o b c k i (back _ _ g1 l1) l1 g2, hi.sb, hi.gl, hi.dl⟩
 cases hl : o.live with
 | true => exact hi.obj q o b c k (back _ _ g1 hl) g2
 | false => cases o <;> first | trivial | cases hl
theorem HInv.part {S : Nat → Nat → Prop} {β : Blocks} {w : World} {h h1 h2 : List AObj} (hi : HInv S β w h) (l1 : h1.length = h.length) (l2 : h2.length = h.length)
  (b1 : ∀ (q : Nat) (y : AObj), h1[q]? = some y → y.live = true → h[q]? = some y) (b2 : ∀ (q : Nat) (y : AObj), h2[q]? = some y → y.live = true → h[q]? = some y)
  (dis : ∀ (q : Nat) (y z : AObj), h1[q]? = some y → y.live = true → h2[q]? = some z → z.live = true → False) : Ext DR S β w (withOwn S β h2) β w ∧ HInv (withOwn S β h2) β w h1 := by
 have hk : Keeps S w (withOwn S β h2) w := keeps_own S β h2 w
 have i2 := hi.sub l2 b2
 have i1 := hi.sub l1 b1
 constructor
 ·refine ⟨hk, fun _ _ h => h, Nat.le_refl _, fun _ _ _ => rfl, fun r b c k hr => .inr ⟨r, c, k, hr⟩, rfl, rfl, rfl, fun _ => Nat.le_refl _, fun b i hs => ?_⟩
  rcases hs with hs | ⟨r, o, c, k, g1, g2, g3⟩
  ·exact .inl hs
  ·obtain ⟨k', rfl⟩ := i2.kpos g1 g2 g3
   exact .inr (.inr ⟨r, c, k', g3⟩)
 ·refine ⟨i1.len, fun r o b c k g1 g2 => (i1.obj r o b c k g1 g2).mono hk (fun _ _ h => h) (fun _ => rfl), i1.lt, i1.inj, fun r o b c k i g1 gl g2 hs => ?_, own_sb i2, i1.gl.mono hk, i1.dl⟩
  rcases hs with hs | ⟨r', o', c', k', e1, e2, e3⟩
  ·exact i1.own r o b c k i g1 gl g2 hs
  ·have := hi.inj r r' o o' b c k c' k' (b1 _ _ g1 gl) gl (b2 _ _ e1 e2) e2 g2 e3
   subst this
   exact (dis r o o' g1 gl e1 e2).elim
variable {P : Program} {c : Code} {Q : Post}
end Go.Abs
