import Derived.Test.YtbeegandhppniaaAbsG
import Derived.Test.YtbeegandhppniaaAbsW
namespace Go.Abs
set_option linter.unusedVariables false
set_option linter.unusedSimpArgs false
set_option linter.unnecessarySimpa false
variable {DR : Prop}
def Ht (DR : Prop) (P : Program) (c : Code) (σ : St) (Q : Post) : Prop := ∀ S β a w, Inv S β σ a w → c.wp P (fun ex a' w' => ∃ e σ', Q e σ' ∧ Ends DR S β w e σ' ex a' w') a w
structure Hx (DR : Prop) (P : Program) (X : Cx) : Prop where
 mixed : P.follows .mixedOrders = true
 types : ∀ t i, X.E.T t = some i → tiOf P t = some i
 calls : CSound DR P X.Γ
variable {P : Program} {X : Cx} {c : Code} {σ : St} {Q Q' : Post}
theorem Ht.mono (h : Ht DR P c σ Q) (hq : ∀ e σ', Q e σ' → Q' e σ') : Ht DR P c σ Q' := fun S β a w hI => wp_mono (h S β a w hI) fun _ _ _ ⟨e, σ', h1, h2⟩ => ⟨e, σ', hq e σ' h1, h2⟩
theorem Ht.of_wp (H : Hx DR P X) (h : Wp X c σ Q) : Ht DR P c σ Q := by
 obtain ⟨e, σ', h1, h2⟩ := h
 intro S β a w hI
 exact wp_mono (aeval_sound H.mixed H.types H.calls X.keep X.acc X.n c σ e σ' h1 S β a w hI) fun _ _ _ hh => ⟨e, σ', h2, hh⟩
theorem Ht.region (H : Hx DR P X) (hc : regionOk X.E c = true) (h : Ops X (opl c) 0 σ (Q .normal)) : Ht DR P c σ Q := .of_wp H (Wp.region hc h)
theorem Ht.skip (hc : c = .skip) (h : Q .normal σ) : Ht DR P c σ Q := by
 subst hc; exact fun S β a w hI => wp_skip ⟨.normal, σ, h, rfl, S, β, hI, Ext.refl _ _ _⟩
theorem Ht.ret (hc : c = .ret) (h : Q .ret σ) : Ht DR P c σ Q := by
 subst hc; exact fun S β a w hI => wp_ret ⟨.ret, σ, h, rfl, S, β, hI, Ext.refl _ _ _⟩
theorem Ht.exit {id : Nat} (hc : c = .exit id) (h : Q (.exit id) σ) : Ht DR P c σ Q := by
 subst hc; exact fun S β a w hI => wp_exit ⟨.exit id, σ, h, rfl, S, β, hI, Ext.refl _ _ _⟩
def seqH (DR : Prop) (P : Program) (b : Code) (Q : Post) : Post
 | .normal, σ => Ht DR P b σ Q
 | e, σ => Q e σ
theorem Ht.seq (hc : isSeq c = true) (h : Ht DR P (cL c) σ (seqH DR P (cR c) Q)) : Ht DR P c σ Q := by
 cases c <;> first | (cases hc; done) | skip
 rename_i x y
 intro S β a w hI
 refine wp_seq (wp_mono (h S β a w hI) ?_)
 rintro ex a1 w1 ⟨e, σ1, hq, rfl, S1, β1, hI1, hE1⟩
 cases e with
 | normal => exact wp_mono (hq S1 β1 a1 w1 hI1) fun _ _ _ ⟨e2, σ2, q2, hh⟩ => ⟨e2, σ2, q2, hh.ext hE1⟩
 | exit id => exact ⟨.exit id, σ1, hq, rfl, S1, β1, hI1, hE1⟩
 | ret => exact ⟨.ret, σ1, hq, rfl, S1, β1, hI1, hE1⟩
theorem seqH.n {b : Code} (h : Ht DR P b σ Q) : seqH DR P b Q .normal σ := h
theorem Ht.cond (x : Bool) (hc : isCond c = true) (hv : σ.ev (condOp c) = .v (.bool x)) (h1 : x = true → Ht DR P (cL c) σ Q) (h2 : x = false → Ht DR P (cR c) σ Q) : Ht DR P c σ Q := by
 cases c <;> first | (cases hc; done) | skip
 rename_i o y z
 intro S β a w hI
 have ho := hI.ev o
 have hv : σ.ev o = .v (.bool x) := hv
 rw [hv] at ho
 have hc' : a.eval o = .bool x := by
  generalize a.eval o = v at ho
  cases ho.of_v; rfl
 cases x with
 | true => exact wp_cond_true hc' (h1 rfl S β a w hI)
 | false => exact wp_cond_false hc' (h2 rfl S β a w hI)
def blkH (id : Nat) (Q : Post) : Post
 | .normal, σ => Q .normal σ
 | .exit id', σ => if id' = id then Q .normal σ else Q (.exit id') σ
 | .ret, σ => Q .ret σ
theorem blkH.x {id : Nat} (h : Q .normal σ) : blkH id Q (.exit id) σ := by simp only [blkH, if_true]; exact h
theorem blkH.y {id id' : Nat} (hne : (id' == id) = false) (h : Q (.exit id') σ) : blkH id Q (.exit id') σ := by simp only [blkH, if_neg (by simpa using hne)]; exact h
theorem Ht.block (id : Nat) (hc : blockId c = some id) (h : Ht DR P (cL c) σ (blkH id Q)) : Ht DR P c σ Q := by
 cases c <;> first | (cases hc; done) | skip
 cases hc
 intro S β a w hI
 refine wp_block (wp_mono (h S β a w hI) ?_)
 rintro ex a1 w1 ⟨e, σ1, hq, rfl, S1, β1, hI1, hE1⟩
 cases e with
 | normal => exact ⟨.normal, σ1, hq, rfl, S1, β1, hI1, hE1⟩
 | exit id' =>
  simp only [blkH] at hq
  by_cases hid : id' = id
  ·subst hid
   rw [if_pos rfl] at hq
   simp only [AExit.to, Exit.inBlock, if_true]
   exact ⟨.normal, σ1, hq, rfl, S1, β1, hI1, hE1⟩
  ·rw [if_neg hid] at hq
   simp only [AExit.to, Exit.inBlock, hid, if_false]
   exact ⟨.exit id', σ1, hq, rfl, S1, β1, hI1, hE1⟩
 | ret => exact ⟨.ret, σ1, hq, rfl, S1, β1, hI1, hE1⟩
def lpH (I : Nat → St → Prop) (m : Nat) (Q : Post) : Post
 | .normal, σ => ∃ k, k < m ∧ I k σ
 | e, σ => Q e σ
theorem Ht.loop (I : Nat → St → Prop) (n : Nat) (hc : isLoop c = true) (h0 : I n σ) (step : ∀ m σ, I m σ → Ht DR P (cL c) σ (lpH I m Q)) : Ht DR P c σ Q := by
 cases c <;> first | (cases hc; done) | skip
 rename_i b
 intro S β a w hI
 refine wp_loop_ghost (fun n a' w' => ∃ σ1 S1 β1, I n σ1 ∧ Inv S1 β1 σ1 a' w' ∧ Ext DR S β w S1 β1 w') n ⟨σ, S, β, h0, hI, Ext.refl _ _ _⟩ ?_
 rintro m a' w' ⟨σ1, S1, β1, h1, hI1, hE1⟩
 refine wp_mono (step m σ1 h1 S1 β1 a' w' hI1) ?_
 rintro ex a2 w2 ⟨e, σ2, hq, rfl, S2, β2, hI2, hE2⟩
 cases e with
 | normal =>
  obtain ⟨k, hk, hi⟩ := hq
  exact ⟨k, hk, σ2, S2, β2, hi, hI2, hE1.trans hE2⟩
 | exit id => exact ⟨.exit id, σ2, hq, rfl, S2, β2, hI2, hE1.trans hE2⟩
 | ret => exact ⟨.ret, σ2, hq, rfl, S2, β2, hI2, hE1.trans hE2⟩
theorem Ht.forget (ks : List Nat) (h : Ht DR P c (Abs.forget ks σ) Q) : Ht DR P c σ Q := fun S β a w hI => h S β a w (hI.forget ks)
def opsOf : Code → Array Oper
 | .region _ ops _ => ops
 | _ => #[]
def isDrawn : Code → Bool
 | .region _ _ draw => draw
 | _ => false
def nextShape : Code → Option (Nat × Nat × Nat)
 | .region _ ops false => match ops.toList with
  | [o0, o1] => match o0.op, o0.dst, o0.guard, o1.op, o1.dst, o1.guard with
   | .next (.tmp it) false, some t, none, .extract (.tmp t') 0, some u, none => if t' = t then some (it, t, u) else none
   | _, _, _, _, _, _ => none
  | _ => none
 | _ => none
theorem Ht.next (H : Hx DR P X) {it t u r since last : Nat} {seen : List Nat} {m : D} {ks : List V} {vs : List D} (hc : nextShape c = some (it, t, u)) (hit : σ.tmps[it]? = some (.ptr r 0)) (hr : σ.heap[r]? = some (.iter m since seen last))
  (hkv : mapKV σ.heap m = some (ks, vs)) (hs : ks.length ≤ since) (hsl : since ≤ last) (ht : t < σ.tmps.length)
  (h0 : (∀ j, j < ks.length → j ∈ seen) → Q .normal ⟨(σ.tmps.set t (.v (.tuple [.bool false]))).set u (.v (.bool false)), σ.heap⟩)
  (h1 : ∀ j k d, j ∉ seen → ks[j]? = some k → vs[j]? = some d → Q .normal ⟨(σ.tmps.set t (mkTuple [.v (.bool true), .v k, d])).set u (.v (.bool true)), σ.heap.set r (.iter m since (seen ++ [j]) ks.length)⟩) : Ht DR P c σ Q := by
 unfold nextShape at hc
 split at hc
 case h_2 => cases hc
 rename_i id ops
 split at hc
 case h_2 => cases hc
 rename_i o0 o1 hops
 split at hc
 case h_2 => cases hc
 rename_i it' t' t2 u' e1 e2 e3 e4 e5 e6
 split at hc
 case isFalse => cases hc
 rename_i htt
 subst htt
 cases hc
 intro S β a w hI
 refine wp_region ?_
 have hsz : ops.size = 2 := by rw [← Array.length_toList, hops]; rfl
 have g0 : ops[0]? = some o0 := by rw [← Array.getElem?_toList, hops]; rfl
 have g1 : ops[1]? = some o1 := by rw [← Array.getElem?_toList, hops]; rfl
 rw [hsz]
 show wpOps P ops _ [0, 1] a w
 rw [wpOps_cons]
 -- behind the first operation
 have two : ∀ (d : D) (h' : List AObj) (S' : Nat → Nat → Prop) (w' : World) (v : Value) (b : Bool), Ext DR S β w S' β w' → HInv S' β w' h' → RelD S' β w' v d → (∃ tl, d = .v (.tuple (.bool b :: tl)) ∨ ∃ tl, d = .tuple (.v (.bool b) :: tl)) →
   Q .normal ⟨(σ.tmps.set t d).set u (.v (.bool b)), h'⟩ → wpOps P ops (fun ex a' w' => ∃ e σ', Q e σ' ∧ Ends DR S β w e σ' ex a' w') [1] (a.put (some t) v) w' := by
  intro d h' S' w' v b hE hi' hv hd hq
  have hI1 := hI.put hE hi' hv (some t)
  rw [wpOps_cons]
  refine aop_sound (E := X.E) (Γ := X.Γ) H.types H.calls g1 hI1 (σ' := ⟨(σ.tmps.set t d).set u (.v (.bool b)), h'⟩) ?_ (fun S2 β2 a2 w2 hI2 hE2 => ⟨.normal, _, hq, rfl, S2, β2, hI2, hE.trans hE2⟩)
  have hev : (σ.put (some t) d h').ev (.tmp t) = d := by simp [St.put, St.ev, List.getD, ht]
  simp only [aop, aeff, aguard, e6, e4, ares, hev]
  rcases hd with ⟨tl, rfl | ⟨tl, rfl⟩⟩
  ·simp [St.put, e5]
  ·simp [St.put, e5]
 have hp := (hI.get hit)
 obtain ⟨pv, hpv, hprel⟩ := hp
 have heval : a.eval (.tmp it) = pv := by
  simp only [Act.eval, Array.getD_eq_getD_getElem?, hpv, Option.getD_some]
 have hwant : Region.wanted o0 (yielded ops a.tmps) = true := by simp [Region.wanted, e3]
 unfold wpOp
 simp only [g0]
 rw [if_pos hwant]
 refine .inl ?_
 have hexec : ∀ v w', (Instr.next pv false o0.type).run P w = .ok v w' → (execOp a.eval o0).run P w = .ok (.value v) w' := by
  intro v w' hrun
  simp [execOp, e1, heval, hrun]
 rcases next_sound (DR := DR) (P := P) hI.heap hr hkv hs hsl o0.type hprel with ⟨ha, hrun⟩ | ⟨j, k, d, w', y, n1, n2, n3, hrun, hE, hi', hrel⟩
 ·refine wp_of_value (hexec _ _ hrun) ?_
  rw [e2]
  refine two (.v (.tuple [.bool false])) σ.heap S w _ false (Ext.refl _ _ _) hI.heap ?_ ⟨[], .inl rfl⟩ (h0 ha)
  exact .v _ _ (.tuple _ _ rfl fun i x y hx hy => by
   match i with
   | 0 => simp at hx hy; subst hx; subst hy; exact .bool _
   | i + 1 => simp at hx)
 ·refine wp_of_value (hexec _ _ hrun) ?_
  rw [e2]
  refine two _ _ S w' _ true hE hi' hrel ?_ (h1 j k d n1 n2 n3)
  unfold mkTuple
  split
  ·rename_i vs' hvs
   have := pures_spec hvs
   match vs', this with
   | x :: tl, h =>
    simp only [List.map_cons, List.cons.injEq, D.v.injEq] at h
    obtain ⟨rfl, _⟩ := h
    exact ⟨tl, .inl rfl⟩
  ·exact ⟨[], .inr ⟨_, rfl⟩⟩
end Go.Abs
