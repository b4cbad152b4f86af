import Derived.Test.YtgmbaemdedachaaAbsG
import Derived.Test.YtgmbaemdedachaaAbsW
namespace Go.Abs
set_option linter.unusedVariables false
set_option linter.unusedSimpArgs false
set_option linter.unnecessarySimpa false
variable {DR : Prop}
def Ht (DR : Prop) (P : Program) (c : Code) (σ : St) (Q : Post) : Prop := ∀ S β a w, Inv S β σ a w → c.wp P (fun ex a' w' => ∃ e σ', Q e σ' ∧ Ends DR S β w e σ' ex a' w') a w
structure Hx (DR : Prop) (P : Program) (X : Cx) : Prop where
 mixed : P.follows .mixedOrders = true
 types : ∀ t i, X.E.T t = some i → tiOf P t = some i
 calls : CSound DR P X.Γ
variable {P : Program} {X : Cx} {c : Code} {σ : St} {Q Q' : Post}
theorem Ht.mono (h : Ht DR P c σ Q) (hq : ∀ e σ', Q e σ' → Q' e σ') : Ht DR P c σ Q' := fun S β a w hI => wp_mono (h S β a w hI) fun _ _ _ ⟨e, σ', h1, h2⟩ => ⟨e, σ', hq e σ' h1, h2⟩
theorem Ht.of_wp (H : Hx DR P X) (h : Wp X c σ Q) : Ht DR P c σ Q := by
 obtain ⟨e, σ', h1, h2⟩ := h
 intro S β a w hI
 exact wp_mono (aeval_sound H.mixed H.types H.calls X.keep X.acc X.n c σ e σ' h1 S β a w hI) fun _ _ _ hh => ⟨e, σ', h2, hh⟩
theorem Ht.region (H : Hx DR P X) (hc : regionOk X.E c = true) (h : Ops X (opl c) 0 σ (Q .normal)) : Ht DR P c σ Q := .of_wp H (Wp.region hc h)
theorem Ht.skip (hc : c = .skip) (h : Q .normal σ) : Ht DR P c σ Q := by
 subst hc; exact fun S β a w hI => wp_skip ⟨.normal, σ, h, rfl, S, β, hI, Ext.refl _ _ _⟩
theorem Ht.ret (hc : c = .ret) (h : Q .ret σ) : Ht DR P c σ Q := by
 subst hc; exact fun S β a w hI => wp_ret ⟨.ret, σ, h, rfl, S, β, hI, Ext.refl _ _ _⟩
variable {id : Nat}
theorem Ht.exit (hc : c = .exit id) (h : Q (.exit id) σ) : Ht DR P c σ Q := by
 subst hc; exact fun S β a w hI => wp_exit ⟨.exit id, σ, h, rfl, S, β, hI, Ext.refl _ _ _⟩
def seqH (DR : Prop) (P : Program) (b : Code) (Q : Post) : Post
 | .normal, σ => Ht DR P b σ Q
 | e, σ => Q e σ
theorem Ht.seq (hc : isSeq c = true) (h : Ht DR P (cL c) σ (seqH DR P (cR c) Q)) : Ht DR P c σ Q := by
 cases c <;> first | (cases hc; done) | skip
 rename_i x y
 intro S β a w hI
 refine wp_seq (wp_mono (h S β a w hI) ?_)
 rintro ex a1 w1 ⟨e, σ1, hq, rfl, S1, β1, hI1, hE1⟩
 cases e with
 | normal => exact wp_mono (hq S1 β1 a1 w1 hI1) fun _ _ _ ⟨e2, σ2, q2, hh⟩ => ⟨e2, σ2, q2, hh.ext hE1⟩
 | exit id => exact ⟨.exit id, σ1, hq, rfl, S1, β1, hI1, hE1⟩
 | ret => exact ⟨.ret, σ1, hq, rfl, S1, β1, hI1, hE1⟩
theorem seqH.n {b : Code} (h : Ht DR P b σ Q) : seqH DR P b Q .normal σ := h
theorem Ht.cond (x : Bool) (hc : isCond c = true) (hv : σ.ev (condOp c) = .v (.bool x)) (h1 : x = true → Ht DR P (cL c) σ Q) (h2 : x = false → Ht DR P (cR c) σ Q) : Ht DR P c σ Q := by
 cases c <;> first | (cases hc; done) | skip
 rename_i o y z
 intro S β a w hI
 have ho := hI.ev o
 have hv : σ.ev o = .v (.bool x) := hv
 rw [hv] at ho
 have hc' : a.eval o = .bool x := by
  generalize a.eval o = v at ho
  cases ho.of_v; rfl
 cases x with
 | true => exact wp_cond_true hc' (h1 rfl S β a w hI)
 | false => exact wp_cond_false hc' (h2 rfl S β a w hI)
def blkH (id : Nat) (Q : Post) : Post
 | .normal, σ => Q .normal σ
 | .exit id', σ => if id' = id then Q .normal σ else Q (.exit id') σ
 | .ret, σ => Q .ret σ
theorem blkH.x (h : Q .normal σ) : blkH id Q (.exit id) σ := by simp only [blkH, if_true]; exact h
theorem Ht.block (id : Nat) (hc : blockId c = some id) (h : Ht DR P (cL c) σ (blkH id Q)) : Ht DR P c σ Q := by
 cases c <;> first | (cases hc; done) | skip
 cases hc
 intro S β a w hI
 refine wp_block (wp_mono (h S β a w hI) ?_)
 rintro ex a1 w1 ⟨e, σ1, hq, rfl, S1, β1, hI1, hE1⟩
 cases e with
 | normal => exact ⟨.normal, σ1, hq, rfl, S1, β1, hI1, hE1⟩
 | exit id' =>
  simp only [blkH] at hq
  by_cases hid : id' = id
  ·subst hid
   rw [if_pos rfl] at hq
   simp only [AExit.to, Exit.inBlock, if_true]
   exact ⟨.normal, σ1, hq, rfl, S1, β1, hI1, hE1⟩
  ·rw [if_neg hid] at hq
   simp only [AExit.to, Exit.inBlock, hid, if_false]
   exact ⟨.exit id', σ1, hq, rfl, S1, β1, hI1, hE1⟩
 | ret => exact ⟨.ret, σ1, hq, rfl, S1, β1, hI1, hE1⟩
def lpH (I : Nat → St → Prop) (m : Nat) (Q : Post) : Post
 | .normal, σ => ∃ k, k < m ∧ I k σ
 | e, σ => Q e σ
theorem Ht.loop (I : Nat → St → Prop) (n : Nat) (hc : isLoop c = true) (h0 : I n σ) (step : ∀ m σ, I m σ → Ht DR P (cL c) σ (lpH I m Q)) : Ht DR P c σ Q := by
 cases c <;> first | (cases hc; done) | skip
 rename_i b
 intro S β a w hI
 refine wp_loop_ghost (fun n a' w' => ∃ σ1 S1 β1, I n σ1 ∧ Inv S1 β1 σ1 a' w' ∧ Ext DR S β w S1 β1 w') n ⟨σ, S, β, h0, hI, Ext.refl _ _ _⟩ ?_
 rintro m a' w' ⟨σ1, S1, β1, h1, hI1, hE1⟩
 refine wp_mono (step m σ1 h1 S1 β1 a' w' hI1) ?_
 rintro ex a2 w2 ⟨e, σ2, hq, rfl, S2, β2, hI2, hE2⟩
 cases e with
 | normal =>
  obtain ⟨k, hk, hi⟩ := hq
  exact ⟨k, hk, σ2, S2, β2, hi, hI2, hE1.trans hE2⟩
 | exit id => exact ⟨.exit id, σ2, hq, rfl, S2, β2, hI2, hE1.trans hE2⟩
 | ret => exact ⟨.ret, σ2, hq, rfl, S2, β2, hI2, hE1.trans hE2⟩
theorem Ht.forget (ks : List Nat) (h : Ht DR P c (Abs.forget ks σ) Q) : Ht DR P c σ Q := fun S β a w hI => h S β a w (hI.forget ks)
def opsOf : Code → Array Oper
 | .region _ ops _ => ops
 | _ => #[]
def isDrawn : Code → Bool
 | .region _ _ draw => draw
 | _ => false
variable {DR : Prop}
def CallT (DR : Prop) (P : Program) (f : FuncId) (ds : List D) (h : List AObj) (Q : D → List AObj → Prop) : Prop := ∀ S β w vs, RelL S β w vs ds → HInv S β w h →
 Calls P f vs w fun e w' => ∃ d h' v S' β', Q d h' ∧ e = .returned v ∧ Ext DR S β w S' β' w' ∧ HInv S' β' w' h' ∧ RelD S' β' w' v d
variable {ds : List D} {h : List AObj}
theorem CallT.mono {P : Program} {f : FuncId} {Q Q' : D → List AObj → Prop} (hh : CallT DR P f ds h Q) (hq : ∀ d h', Q d h' → Q' d h') : CallT DR P f ds h Q' := fun S β w vs hr hi =>
 (hh S β w vs hr hi).mono fun _ _ ⟨d, h', v, S', β', q, r⟩ => ⟨d, h', v, S', β', hq d h' q, r⟩
def startIn (P : Program) (f : Nat) (ds : List D) (h : List AObj) : St := match P.funcs[f]? with
 | some fn => ⟨ds ++ List.replicate (fn.ntmps - ds.length) U, h⟩
 | none => ⟨[], []⟩
theorem callT_of_ht {P : Program} {f : Nat} {fn : Func} {c : Code} {T : Nat → Option TI} (hfn : P.funcs[f]? = some fn) (hc : fn.body = some c) (hT : ∀ t i, T t = some i → tiOf P t = some i) {Qc : D → List AObj → Prop}
  (ht : Ht DR P (bodyOf P f) (startIn P f ds h) (fun e σ => (e = .normal ∨ e = .ret) ∧ ∃ d, resultsD T σ (resOf P f) = some d ∧ Qc d σ.heap)) : CallT DR P f ds h Qc := by
 intro S β w us hrel hi
 have hb : bodyOf P f = c := by simp only [bodyOf, hfn, hc]
 have hs : startIn P f ds h = ⟨ds ++ List.replicate (fn.ntmps - ds.length) U, h⟩ := by simp only [startIn, hfn]
 have hres : resOf P f = fn.results.toList := by simp only [resOf, hfn]
 rw [hb, hs] at ht
 have hstart : Inv S β ⟨ds ++ List.replicate (fn.ntmps - ds.length) U, h⟩ { tmps := us ++ Array.replicate (fn.ntmps - us.size) undef, defers := [] } w := by
  refine ⟨by simp [hrel.1], fun i v d h1 h2 => ?_, hi, rfl⟩
  rw [Array.getElem?_append] at h1
  simp only [List.getElem?_append] at h2
  split at h1
  ·rename_i hlt
   rw [if_pos (by rw [← hrel.1]; exact hlt)] at h2
   exact hrel.2 i v d h1 h2
  ·rename_i hlt
   rw [if_neg (by rw [← hrel.1]; exact hlt)] at h2
   have e1 := (Array.mem_replicate.1 (Array.mem_of_getElem? h1)).2
   have e2 := (List.mem_replicate.1 (zE h2)).2
   subst e1 e2
   exact .v _ _ (.tuple _ _ rfl (fun i v x hv => by simp at hv))
 refine calls_of_wp hfn hc (wp_mono (ht S β _ w hstart) ?_)
 rintro ex a' w' ⟨e, σ, ⟨he, d, hd, hq⟩, rfl, S1, β1, hI1, hE1⟩
 rw [hres] at hd
 obtain ⟨v, h3, h4⟩ := resultsD_sound hT hI1 hd
 rcases he with rfl | rfl
 ·exact ⟨hI1.defers, v, h3, d, _, v, S1, β1, hq, rfl, hE1, hI1.heap, h4⟩
 ·exact ⟨hI1.defers, v, h3, d, _, v, S1, β1, hq, rfl, hE1, hI1.heap, h4⟩
variable {P : Program} {X : Cx} {c : Code} {σ : St} {Q : Post}
variable {DR : Prop}
variable {S : Nat → Nat → Prop} {h h2 : List AObj} {w : World} {β : Blocks}
theorem HInv.sub (hi : HInv S β w h) (hl : h2.length = h.length) (back : ∀ (q : Nat) (y : AObj), h2[q]? = some y → y.live = true → h[q]? = some y) : HInv S β w h2 := by
 refine ⟨by rw [hl]; exact hi.len, fun q o b c k g1 g2 => ?_, fun q o b c k g1 l1 g2 => hi.lt q o b c k (back _ _ g1 l1) l1 g2, fun r1 r2 o1 o2 b c1 k1 c2 k2 g1 l1 g2 l2 g3 g4 => hi.inj r1 r2 o1 o2 b c1 k1 c2 k2 (back _ _ g1 l1) l1 (back _ _ g2 l2) l2 g3 g4,
  fun q o b c k i g1 l1 g2 => hi.own q o b c k i (back _ _ g1 l1) l1 g2, hi.sb, hi.gl, hi.dl⟩
 cases hl : o.live with
 | true => exact hi.obj q o b c k (back _ _ g1 hl) g2
 | false => cases o <;> first | trivial | cases hl
variable {h1 : List AObj}
theorem HInv.part (hi : HInv S β w h) (l1 : h1.length = h.length) (l2 : h2.length = h.length)
  (b1 : ∀ (q : Nat) (y : AObj), h1[q]? = some y → y.live = true → h[q]? = some y) (b2 : ∀ (q : Nat) (y : AObj), h2[q]? = some y → y.live = true → h[q]? = some y)
  (dis : ∀ (q : Nat) (y z : AObj), h1[q]? = some y → y.live = true → h2[q]? = some z → z.live = true → False) : Ext DR S β w (withOwn S β h2) β w ∧ HInv (withOwn S β h2) β w h1 := by
 have hk : Keeps S w (withOwn S β h2) w := keeps_own S β h2 w
 have i2 := hi.sub l2 b2
 have i1 := hi.sub l1 b1
 constructor
 ·refine ⟨hk, fun _ _ h => h, zL _, fun _ _ _ => rfl, fun r b c k hr => .inr ⟨r, c, k, hr⟩, rfl, rfl, rfl, fun _ => zL _, fun b i hs => ?_⟩
  rcases hs with hs | ⟨r, o, c, k, g1, g2, g3⟩
  ·exact .inl hs
  ·obtain ⟨k', rfl⟩ := i2.kpos g1 g2 g3
   exact .inr (.inr ⟨r, c, k', g3⟩)
 ·refine ⟨i1.len, fun r o b c k g1 g2 => (i1.obj r o b c k g1 g2).mono hk (fun _ _ h => h) (fun _ => rfl), i1.lt, i1.inj, fun r o b c k i g1 gl g2 hs => ?_, own_sb i2, i1.gl.mono hk, i1.dl⟩
  rcases hs with hs | ⟨r', o', c', k', e1, e2, e3⟩
  ·exact i1.own r o b c k i g1 gl g2 hs
  ·have := hi.inj r r' o o' b c k c' k' (b1 _ _ g1 gl) gl (b2 _ _ e1 e2) e2 g2 e3
   subst this
   exact (dis r o o' g1 gl e1 e2).elim
variable {cs : List D} {n r : Nat} {vs : List V}
theorem ptr_read (hi : HInv S β w h) (hr : h[r]? = some (.cells cs)) (hz : allM (frz h n) cs = some vs) {v : Value} (hv : RelD S β w v (.ptr r 0)) : RelD (withOwn S β h) β w v (.vptr vs) := by
 cases hv with
 | ptr _ _ b c k hb =>
 obtain ⟨o1, o2, o3, cur, e, o4, o5, o6⟩ := hi.obj r _ b c k hr hb
 have hlen : ∀ {ds : List D} {xs : List V}, allM (frz h n) ds = some xs → xs.length = ds.length ∧ ∀ (j : Nat) (x : V), xs[j]? = some x → ∃ d, ds[j]? = some d ∧ frz h n d = some x := by
  intro ds
  induction ds with
  | nil => intro xs hx; cases hx; exact ⟨rfl, fun j x hx => by simp at hx⟩
  | cons d r ih =>
   intro xs hx
   simp only [allM] at hx
   split at hx
   ·rename_i a b ha hb
    cases hx
    obtain ⟨i1, i2⟩ := ih hb
    refine ⟨by simp [i1], fun j x hx => ?_⟩
    cases j with
    | zero => cases hx; exact ⟨d, rfl, ha⟩
    | succ j => exact i2 j x hx
   ·cases hx
 obtain ⟨e1, e2⟩ := hlen hz
 refine .vptr b 0 vs (fun j => cur.getD j default) (fun j hj => ⟨.inr ⟨r, _, c, k, hr, rfl, hb⟩, ?_⟩) (fun j x hx => ?_)
 ·rw [Nat.zero_add, cell_own o4]
  have hjc : j < cur.size := by omega
  simp [Array.getD, hjc]
 ·obtain ⟨d, g1, g2⟩ := e2 j x hx
  have hjc : j < cur.size := by rw [o5, ← o3]; exact yE g1
  have hc := zD hjc
  have := frz_sound hi n d x _ g2 (o6 j _ d hc g1)
  simpa [Array.getD, hjc] using this
variable {P : Program} {c : Code} {Q : Post}
theorem Ht.freeze {tmps : List D} {t : Nat} (ht : tmps[t]? = some (.ptr r 0)) (hr : h2[r]? = some (.cells cs)) (hz : allM (frz h2 n) cs = some vs) (l1 : h1.length = h.length) (l2 : h2.length = h.length)
  (b1 : ∀ (q : Nat) (y : AObj), h1[q]? = some y → y.live = true → h[q]? = some y) (b2 : ∀ (q : Nat) (y : AObj), h2[q]? = some y → y.live = true → h[q]? = some y)
  (dis : ∀ (q : Nat) (y z : AObj), h1[q]? = some y → y.live = true → h2[q]? = some z → z.live = true → False) (hh : Ht DR P c ⟨tmps.set t (.vptr vs), h1⟩ Q) : Ht DR P c ⟨tmps, h⟩ Q := by
 intro S β a w hI
 obtain ⟨hE, hI1⟩ := hI.heap.part (DR := DR) l1 l2 b1 b2 dis
 have hk : Keeps S w (withOwn S β h2) w := keeps_own S β h2 w
 have hI2 : Inv (withOwn S β h2) β ⟨tmps.set t (.vptr vs), h1⟩ a w := by
  refine ⟨by rw [hI.size]; simp, fun i v d g1 g2 => ?_, hI1, hI.defers⟩
  have g3 : (tmps.set t (.vptr vs))[i]? = some d := g2
  clear g2
  rw [zR] at g3
  split at g3
  ·rename_i e
   subst e
   split at g3
   ·cases g3
    exact ptr_read (hI.heap.sub l2 b2) hr hz (hI.tmps t v _ g1 ht)
   ·cases g3
  ·exact (hI.tmps i v d g1 g3).mono hk fun _ _ h => h
 exact wp_mono (hh _ β a w hI2) fun _ _ _ ⟨e, σ', hq, hx⟩ => ⟨e, σ', hq, hx.ext hE⟩
end Go.Abs
