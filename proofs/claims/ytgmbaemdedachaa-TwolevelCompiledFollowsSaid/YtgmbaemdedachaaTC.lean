import Derived.Test.YtgmbaemdedachaaAbsHC
import Derived.Test.YtgmbaemdedachaaWF1
import Derived.Test.YtgmbaemdedachaaAbsH
import Derived.Test.YtgmbaemdedachaaAbsTO
import Derived.Test.YtgmbaemdedachaaShelf
import Derived.Test.YtgmbaemdedachaaAbsEv
namespace Go.Abs
set_option linter.unusedVariables false
set_option linter.unusedSimpArgs false
set_option linter.unnecessarySimpa false
section
variable {DR : Prop} {P : Program} {X : Cx} {c : Code} {σ : St} {Q : Post}
theorem Hs (h : Ht DR P (cL c) σ (seqH DR P (cR c) Q)) (hc : isSeq c = true := by kernel_rfl) : Ht DR P c σ Q := Ht.seq hc h
theorem Hr (H : Hx DR P X) (h : Ops X (opl c) 0 σ (Q .normal)) (hc : regionOk X.E c = true := by kernel_rfl) : Ht DR P c σ Q := Ht.region H hc h
theorem HF (H : Hx DR P X) (h : Ops X (opl c) 0 σ (Q .normal)) (hc : regionFar X.E σ c = true := by kernel_rfl) : Ht DR P c σ Q := .of_wp H (Wp.regionF hc h)
theorem Og {ops : List Oper} {Q : St → Prop} {i : Nat} (k : Nat) (h : Ops X ops (i + k) (asegD X ops k i σ) Q) (e : (aseg X ops k i σ).isSome = true := by kernel_rfl) : Ops X ops i σ Q := Ops.seg' k (i + k) (by rw [e]; simp) h
theorem Oo {ops : List Oper} {Q : St → Prop} {i : Nat} {r : List AObj → Option (D × List AObj)} {d : List AObj → D} {h' : List AObj → List AObj} (H : ∀ h, h = σ.heap → r h = some (d h, h' h)) (h : Ops X ops (i + 1) (putAt ops i σ (d σ.heap) (h' σ.heap)) Q) (h1 : effAt X ops i σ = r σ.heap := by kernel_rfl) : Ops X ops i σ Q := Ops.one' (i + 1) H (by simp) h1 h
theorem Od {ops : List Oper} {i : Nat} {Q : St → Prop} (h : Q σ) (hi : ops.drop i = [] := by kernel_rfl) : Ops X ops i σ Q := Ops.done hi h
theorem On {ops : List Oper} {i : Nat} {b : Code} (h : Ht DR P b σ Q) (hi : ops.drop i = [] := by kernel_rfl) : Ops X ops i σ (seqH DR P b Q .normal) := Ops.done hi h
theorem Hy (h : Ht DR P (cL c) σ Q) (hc : isCond c = true := by kernel_rfl) (hv : σ.ev (condOp c) = .v (.bool true) := by kernel_rfl) : Ht DR P c σ Q := Ht.cond true hc hv (fun _ => h) (fun e => nomatch e)
theorem Hz (h : Ht DR P (cR c) σ Q) (hc : isCond c = true := by kernel_rfl) (hv : σ.ev (condOp c) = .v (.bool false) := by kernel_rfl) : Ht DR P c σ Q := Ht.cond false hc hv (fun e => nomatch e) (fun _ => h)
theorem Hd (p : Prop) [Decidable p] (h1 : p → Ht DR P (cL c) σ Q) (h2 : ¬p → Ht DR P (cR c) σ Q) (hc : isCond c = true := by kernel_rfl) (hv : σ.ev (condOp c) = .v (.bool (decide p)) := by kernel_rfl) : Ht DR P c σ Q := Ht.cond (decide p) hc hv (fun e => h1 (yC e)) (fun e => h2 (yB e))
theorem Hk (h : Q .normal σ) (hc : c = .skip := by kernel_rfl) : Ht DR P c σ Q := Ht.skip hc h
theorem Hb (id : Nat) (h : Ht DR P (cL c) σ (blkH id Q)) (hc : blockId c = some id := by kernel_rfl) : Ht DR P c σ Q := Ht.block id hc h
theorem Hw {h s g : List AObj} {q : Nat} {o : AObj} (e0 : h = s) (hq : g[q]? = some o) (e : s = g := by kernel_rfl) : h[q]? = some o := hq_of (e0.trans e) hq
theorem Hf (ks : List Nat) (σ' : St) (h : Ht DR P c σ' Q) (e : Abs.forget ks σ = σ' := by kernel_rfl) : Ht DR P c σ Q := Ht.forget ks (by rw [e]; exact h)
theorem Hg (ks : List Nat) {σ' : St} (e : Abs.forget ks σ = σ') (h : Ht DR P c σ' Q) : Ht DR P c σ Q := Ht.forget ks (by rw [e]; exact h)
end
end Go.Abs
namespace Go.Abs.Ta
open Go.Sort Go.Proofs
abbrev HT := Ht False Try.prog
abbrev SH := seqH False Try.prog
set_option linter.unusedVariables false
set_option maxRecDepth 100000
def ti87 : TI := ⟨.map 9 3, 1, 8, .nilmap, true, []⟩
def ti98 : TI := ⟨.map 96 3, 1, 8, .nilmap, true, []⟩
def TM (t : Nat) : Option TI := if t = 87 then some ti87 else if t = 98 then some ti98 else T t
theorem TM_ok : ∀ t i, TM t = some i → tiOf Try.prog t = some i := by
 intro t i h
 unfold TM at h
 split at h
 ·rename_i e; subst e; cases h; kernel_rfl
 ·split at h
  ·rename_i e; subst e; cases h; kernel_rfl
  ·exact T_ok t i h
abbrev K0 : Keep := ⟨fun _ => [], fun _ => [], fun _ => []⟩
noncomputable def XM (n : Nat) : Cx := ⟨{ E with T := TM, dynP := true }, run Try.prog E n, K0, [], n⟩
theorem hxM (n : Nat) : Hx False Try.prog (XM n) := ⟨good.mixed, TM_ok, run_sound good n⟩
noncomputable def XR (n : Nat) : Cx := ⟨{ E with T := TM, rowM := true, dynP := true }, run Try.prog E n, K0, [], n⟩
theorem hxR (n : Nat) : Hx False Try.prog (XR n) := ⟨good.mixed, TM_ok, run_sound good n⟩
noncomputable def gI (n f0 : Nat) (ds0 : List D) (h0 : List AObj) (d0 : D) (h1 : List AObj) : Calling := fun f ds h => @ite _ (f = f0 ∧ ds = ds0 ∧ h = h0) (Classical.propDecidable _) (some (d0, h1)) (run Try.prog E n f ds h)
variable {d0 : D} {ds0 : List D} {f0 : Nat} {h0 h1 : List AObj}
theorem gI_ok (n : Nat) (hIs : Is Try.prog f0) (hc : CallT False Try.prog f0 ds0 h0 fun d h' => d = d0 ∧ h' = h1) : CSound False Try.prog (gI n f0 ds0 h0 d0 h1) := by
 intro f ds h d h' hh
 have hh2 : @ite _ (f = f0 ∧ ds = ds0 ∧ h = h0) (Classical.propDecidable _) (some (d0, h1)) (run Try.prog E n f ds h) = some (d, h') := hh
 clear hh
 by_cases e : f = f0 ∧ ds = ds0 ∧ h = h0
 ·rw [if_pos e] at hh2
  obtain ⟨rfl, rfl, rfl⟩ := e
  cases hh2
  refine ⟨hIs, fun S β w vs hr hi => (hc S β w vs hr hi).mono ?_⟩
  rintro e w' ⟨d, h', v, S', β', ⟨rfl, rfl⟩, h2⟩
  exact ⟨v, S', β', h2⟩
 ·rw [if_neg e] at hh2
  exact run_sound good n f ds h d h' hh2
noncomputable def XI (row : Bool) (n f0 : Nat) (ds0 : List D) (h0 : List AObj) (d0 : D) (h1 : List AObj) : Cx := ⟨{ E with T := TM, rowM := row, dynP := true, pureF := fun f => E.pureF f && !(f == f0) }, gI n f0 ds0 h0 d0 h1, K0, [], n⟩
theorem hxI (row : Bool) (n : Nat) (hIs : Is Try.prog f0) (hc : CallT False Try.prog f0 ds0 h0 fun d h' => d = d0 ∧ h' = h1) : Hx False Try.prog (XI row n f0 ds0 h0 d0 h1) :=
 ⟨good.mixed, TM_ok, gI_ok n hIs hc⟩
variable {ds : List D} {h : List AObj} {row : Bool}
theorem callI {n : Nat} (e1 : ds = ds0) (e2 : h = h0) (ho : E.ownR f0 = none := by kernel_rfl) (hl : E.lend f0 = none := by kernel_rfl) : callD (XI row n f0 ds0 h0 d0 h1).E (XI row n f0 ds0 h0 d0 h1).Γ f0 ds h = some (d0, h1) := by
 have hp : (XI row n f0 ds0 h0 d0 h1).E.pureF f0 = false := by show (E.pureF f0 && !(f0 == f0)) = false; simp
 have ho : (XI row n f0 ds0 h0 d0 h1).E.ownR f0 = none := ho
 have hl : (XI row n f0 ds0 h0 d0 h1).E.lend f0 = none := hl
 simp only [callD, hp, Bool.false_eq_true, if_false, ho, hl]
 exact if_pos ⟨rfl, e1, e2⟩
noncomputable def XP (row : Bool) (n f0 : Nat) (ds0 : List D) (r : V) : Cx := ⟨{ E with T := TM, rowM := row, dynP := true, pureF := fun f => E.pureF f || f == f0 }, gI n f0 ds0 [] (.v r) [], K0, [], n⟩
theorem hxP (row : Bool) (n : Nat) {r : V} (hIs : Is Try.prog f0) (hc : CallT False Try.prog f0 ds0 [] fun d h' => d = .v r ∧ h' = []) : Hx False Try.prog (XP row n f0 ds0 r) := ⟨good.mixed, TM_ok, gI_ok n hIs hc⟩
theorem callP {n : Nat} {r : V} (ha : allM (argP h) ds = some ds0) (hf : ds.all D.freed = true) (hr : Abs.frz [] 6 (.v r) = some r) : callD (XP row n f0 ds0 r).E (XP row n f0 ds0 r).Γ f0 ds h = some (.v r, h) := by
 have hp : (XP row n f0 ds0 r).E.pureF f0 = true := by show (E.pureF f0 || f0 == f0) = true; simp
 have hg : (XP row n f0 ds0 r).Γ f0 ds0 [] = some (.v r, []) := if_pos ⟨rfl, rfl, rfl⟩
 simp only [callD, hp, if_true, ha, hg, hr, hf, Bool.true_or]
variable {DR : Prop} {P : Program} {d : D} {f : FuncId}
theorem dcall {F : List D → List AObj → Option (D × List AObj)} (h : DOk DR P f F) {hp hp' : List AObj} (he : F ds hp = some (d, hp')) : CallT DR P f ds hp fun d0 h0 => d0 = d ∧ h0 = hp' := by
 intro S β w vs hr hi
 refine (h.2 ds hp d hp' he S β w vs hr hi).mono ?_
 rintro e w' ⟨v, S', β', h1, h2, h3, h4⟩
 exact ⟨d, hp', v, S', β', ⟨rfl, rfl⟩, h1, h2, h3, h4⟩
variable {c : Code}
theorem callN {f : Nat} {fn : Func} {T : Nat → Option TI} (hfn : P.funcs[f]? = some fn) (hc : fn.body = some c) (hT : ∀ t i, T t = some i → tiOf P t = some i) {r : V} {N : Nat}
  (ht : Ht DR P (bodyOf P f) (startIn P f ds []) (fun e σ => (e = .normal ∨ e = .ret) ∧ ∃ d, resultsD T σ (resOf P f) = some d ∧ frz σ.heap N d = some r)) : CallT DR P f ds [] fun d h' => d = .v r ∧ h' = [] := by
 intro S β w us hrel hi
 have hβ : β = [] := List.eq_nil_of_length_eq_zero hi.len
 subst hβ
 refine (callT_of_ht (Qc := fun d h' => frz h' N d = some r) hfn hc hT ht S [] w us hrel hi).mono ?_
 rintro e w' ⟨d, h', v, S1, β1, hz, rfl, hE1, hI1, hR1⟩
 have hin : ∀ b i, withOwn S1 β1 h' b i → S b i ∨ w.heap.size ≤ b := by
  intro b i hs
  rcases hs with hs | ⟨q, o, c, k, g1, g2, g3⟩
  ·rcases hE1.stay b i hs with g | g | ⟨q, c, k, g⟩
   ·exact .inl g
   ·exact .inr g
   ·simp at g
  ·obtain ⟨k', rfl⟩ := hI1.kpos g1 g2 g3
   rcases hE1.fresh q b c k' g3 with g | ⟨q', c', k'', g⟩
   ·exact .inr g
   ·simp at g
 obtain ⟨b1, b2⟩ := back_from (S' := withOwn S1 β1 h') (h1 := h') hi hE1 (fun _ _ h => h) (fun b i hs => .inl (hE1.keeps b i hs).1) hin (own_sb hI1)
 exact ⟨.v r, [], v, _, [], ⟨rfl, rfl⟩, rfl, b1, b2, .v _ _ (frz_sound hI1 N _ _ _ hz hR1)⟩
variable {cs : List D} {i : TI} {off : Nat}
theorem ldc {r : Nat} (hr : h[r]? = some (.cells cs)) (hd : (cut cs off i.size).bind (mkOf i.kind.isAgg) = some d) : (loadD i h (.ptr r off)).map (·, h) = some (d, h) := by
 simp only [loadD, hr, hd, Option.map_some]
theorem stc {r : Nat} {cs' : List D} {x : D} (hr : h[r]? = some (.cells cs)) (hs : (x.solid && x.cells.length == i.size) = true) (hc : splice cs off x.cells = some cs') : (storeD i h (.ptr r off) x).map (U, ·) = some (U, h.set r (.cells cs')) := by
 simp only [storeD, hs, if_true, hr, hc, Option.map_some]
def Sm (n : Nat) (l : List (Nat × D)) (h : List AObj) : St := ⟨(List.range n).map fun i => (l.lookup i).getD .undef, h⟩
variable {Q : Post} {b : Code} {id : Nat} {σ : St}
theorem seqH.x (h : Q (.exit id) σ) : seqH DR P b Q (.exit id) σ := h
theorem seqH.r (h : Q .ret σ) : seqH DR P b Q .ret σ := h
theorem blkH.r (h : Q .ret σ) : blkH id Q .ret σ := h
theorem blkH.n (h : Q .normal σ) : blkH id Q .normal σ := h
theorem Ht.st {σ' : St} (e : σ = σ') (h : Ht DR P c σ' Q) : Ht DR P c σ Q := by rw [e]; exact h
theorem _root_.Go.Abs.Ht.regionF {X : Cx} (H : Hx DR P X) (hc : regionFar X.E σ c = true) (h : Ops X (opl c) 0 σ (Q .normal)) : Ht DR P c σ Q := .of_wp H (Wp.regionF hc h)
theorem Ht.pad (h : Ht DR P c ⟨σ.tmps, σ.heap ++ [.dead]⟩ Q) : Ht DR P c σ Q := by
 intro S β a w hI
 obtain ⟨β', hI', hE⟩ := hI.padS (DR := DR)
 exact wp_mono (h S β' a w hI') fun _ _ _ ⟨e, σ', hq, hh⟩ => ⟨e, σ', hq, hh.ext hE⟩
theorem mid_get (A : List AObj) (x : AObj) (l : List AObj) : (A ++ x :: l)[A.length]? = some x := by rw [zK (zL _), Nat.sub_self]; rfl
theorem mid_set (A : List AObj) (x y : AObj) (l : List AObj) : (A ++ x :: l).set A.length y = A ++ y :: l := by rw [List.set_append_right _ _ (zL _), Nat.sub_self]; rfl
variable {G : List AObj} {o : AObj}
theorem set_keep {r q : Nat} {x : AObj} (hne : q ≠ r) (h : G[r]? = some o) : (G.set q x)[r]? = some o := by rw [zO hne]; exact h
theorem set_new {r : Nat} {x : AObj} (h : G[r]? = some o) : (G.set r x)[r]? = some x := zQ (yE h)
theorem app_keep {l : List AObj} {r : Nat} (h : G[r]? = some o) : (G ++ l)[r]? = some o := by rw [zJ (yE h)]; exact h
variable {j : Nat}
theorem w64_nat (h : j < 1000000000) : w64 ((j : Int) + 1) = ((j + 1 : Nat) : Int) := by rw [w64_id ⟨om, om⟩]; omega
variable {t : Nat} {tmps : List D}
theorem Ht.freezeL {h2 : List AObj} {n : Nat} {x : V} (ht : tmps[t]? = some d) (hz : frz h2 n d = some x) (l1 : h1.length = h.length) (l2 : h2.length = h.length)
  (b1 : ∀ (q : Nat) (y : AObj), h1[q]? = some y → y.live = true → h[q]? = some y) (b2 : ∀ (q : Nat) (y : AObj), h2[q]? = some y → y.live = true → h[q]? = some y)
  (dis : ∀ (q : Nat) (y z : AObj), h1[q]? = some y → y.live = true → h2[q]? = some z → z.live = true → False) (hh : Ht DR P c ⟨tmps.set t (.v x), h1⟩ Q) : Ht DR P c ⟨tmps, h⟩ Q := by
 intro S β a w hI
 obtain ⟨hE, hI1⟩ := hI.heap.part (DR := DR) l1 l2 b1 b2 dis
 have hk : Keeps S w (withOwn S β h2) w := keeps_own S β h2 w
 have hI2 : Inv (withOwn S β h2) β ⟨tmps.set t (.v x), h1⟩ a w := by
  refine ⟨by rw [hI.size]; simp, fun i v d' g1 g2 => ?_, hI1, hI.defers⟩
  have g3 : (tmps.set t (.v x))[i]? = some d' := g2
  clear g2
  rw [zR] at g3
  split at g3
  ·rename_i e
   subst e
   split at g3
   ·cases g3
    exact .v _ _ (frz_sound (hI.heap.sub l2 b2) n _ _ _ hz (hI.tmps t v _ g1 ht))
   ·cases g3
  ·exact (hI.tmps i v d' g1 g3).mono hk fun _ _ h => h
 exact wp_mono (hh _ β a w hI2) fun _ _ _ ⟨e, σ', hq, hx⟩ => ⟨e, σ', hq, hx.ext hE⟩
variable {es : List V} {k : Nat}
theorem Ht.freezeR {r : Nat} (ht : tmps[t]? = some (.osl r 0 es.length false)) (hr : h[r]? = some (.row k es))
  (hh : Ht DR P c ⟨tmps.set t (.v (.sl .plain es)), h.set r .dead⟩ Q) : Ht DR P c ⟨tmps, h⟩ Q := by
 have hrl := yE hr
 let h2 : List AObj := (List.replicate h.length AObj.dead).set r (.row k es)
 have g2 : h2[r]? = some (.row k es) := zQ (by simpa using hrl)
 refine Ht.freezeL (h1 := h.set r .dead) (h2 := h2) (n := 3) (d := .osl r 0 es.length false) (x := .sl .plain es) ht ?_ (by simp) (by simp [h2]) ?_ ?_ ?_ hh
 ·show frz h2 3 (.osl r 0 es.length false) = _
  simp only [frz, g2]
  rw [if_pos om]
  simp
 ·intro q y hq hl
  by_cases e : r = q
  ·subst e
   rw [zQ hrl] at hq
   cases hq; cases hl
  ·rwa [zO e] at hq
 ·intro q y hq hl
  by_cases e : r = q
  ·subst e
   rw [g2] at hq
   cases hq; exact hr
  ·simp only [h2] at hq
   rw [zO e, zU] at hq
   split at hq
   ·cases hq; cases hl
   ·cases hq
 ·intro q y z hq hl hz hlz
  by_cases e : r = q
  ·subst e
   rw [zQ hrl] at hq
   cases hq; cases hl
  ·simp only [h2] at hz
   rw [zO e, zU] at hz
   split at hz
   ·cases hz; cases hlz
   ·cases hz
variable {S : Nat → Nat → Prop} {w : World} {β : Blocks}
theorem _root_.Go.Abs.HInv.keepRow {S1 : Nat → Nat → Prop} {β1 : Blocks} {w1 : World} (hi : HInv S β w h) (e1 : Ext DR S β w S1 β w1) (e2 : HInv S1 β w1 h) (hI : HInv S1 β1 w1 h1) {r b c a : Nat} (hr : h1[r]? = some (.row a es)) (hb : β1[r]? = some (b, c, k)) (hge : w.heap.size ≤ b) :
  Ext DR S β w S1 (β ++ [(b, c, k)]) w1 ∧ HInv S1 (β ++ [(b, c, k)]) w1 (h ++ [.row a es]) := by
 have hlen := hi.len
 have hp : ∀ (q : Nat) x, β[q]? = some x → (β ++ [(b, c, k)])[q]? = some x := fun q x hx => (yF _ _ _ _).2 (.inl ⟨hx, yE hx⟩)
 have old : ∀ (q : Nat) (o : AObj) x, (h ++ [.row a es])[q]? = some o → (β ++ [(b, c, k)])[q]? = some x → (h[q]? = some o ∧ β[q]? = some x) ∨ (q = h.length ∧ o = .row a es ∧ x = (b, c, k)) := by
  intro q o x g1 g2
  rcases (yF _ _ _ _).1 g1 with ⟨g1, j1⟩ | ⟨j1, g1⟩ <;> rcases (yF _ _ _ _).1 g2 with ⟨g2, j2⟩ | ⟨j2, g2⟩
  ·exact .inl ⟨g1, g2⟩
  ·omega
  ·omega
  ·exact .inr ⟨j1, g1.symm, g2.symm⟩
 have hnew := hI.obj r _ b c k hr hb
 have hlt := hI.lt r _ b c k hr rfl hb
 constructor
 ·refine ⟨e1.keeps, hp, e1.size, e1.rest, fun q b' c' k' hq => ?_, e1.os, e1.tape, e1.output, e1.drawn, e1.stay⟩
  rcases (yF _ _ _ _).1 hq with ⟨g, _⟩ | ⟨_, g⟩
  ·exact e1.fresh q b' c' k' g
  ·cases g; exact .inl hge
 ·refine ⟨by simp [hlen], fun q o b' c' k' g1 g2 => ?_, fun q o b' c' k' g1 l1 g2 => ?_, fun q1 q2 o1 o2 b' c1 k1 c2 k2 g1 l1 g2 l2 g3 g4 => ?_, fun q o b' c' k' i g1 l1 g2 => ?_, hI.sb, e2.gl, fun q b' c' k' hq => ?_⟩
  ·rcases old q o _ g1 g2 with ⟨g1, g2⟩ | ⟨rfl, rfl, g⟩
   ·exact (e2.obj q o b' c' k' g1 g2).mono (fun _ _ h => ⟨h, rfl⟩) hp (fun _ => rfl)
   ·cases g; exact hnew
  ·rcases old q o _ g1 g2 with ⟨g1, g2⟩ | ⟨rfl, rfl, g⟩
   ·exact e2.lt q o b' c' k' g1 l1 g2
   ·cases g; exact hlt
  ·rcases old q1 o1 _ g1 g3 with ⟨g1, g3⟩ | ⟨rfl, rfl, g⟩ <;> rcases old q2 o2 _ g2 g4 with ⟨g2, g4⟩ | ⟨rfl, rfl, g'⟩
   ·exact e2.inj q1 q2 o1 o2 b' c1 k1 c2 k2 g1 l1 g2 l2 g3 g4
   ·cases g'
    have := hi.lt q1 o1 b c1 k1 g1 l1 g3
    omega
   ·cases g
    have := hi.lt q2 o2 b c2 k2 g2 l2 g4
    omega
   ·rfl
  ·rcases old q o _ g1 g2 with ⟨g1, g2⟩ | ⟨rfl, rfl, g⟩
   ·exact e2.own q o b' c' k' i g1 l1 g2
   ·cases g; exact hI.own r _ b c k i hr rfl hb
  ·rcases (yF _ _ _ _).1 hq with ⟨g, _⟩ | ⟨_, g⟩
   ·exact e2.dl q b' c' k' g
   ·cases g; exact hlt
variable {vs : List V}
theorem relL_pure {β' : Blocks} {us : Array Value} (h : RelL S β w us (vs.map .v)) : RelL S β' w us (vs.map .v) :=
 ⟨h.1, fun i v x g1 g2 => by
  rw [zG] at g2
  obtain ⟨y, hy, rfl⟩ := zB.1 g2
  exact .v _ _ (h.2 i v (.v y) g1 (by rw [zG, hy]; rfl)).of_v⟩
theorem rowBack (hc : CallT DR P f (vs.map .v) [] fun d h' => ∃ r, d = .osl r 0 es.length false ∧ h'[r]? = some (.row k es)) (h : List AObj) :
  CallT DR P f (vs.map .v) h fun d h' => d = .osl h.length 0 es.length false ∧ h' = h ++ [.row k es] := by
 intro S β w us hrel hi
 refine (hc S [] w us (relL_pure hrel) (hinv_nil hi.sb hi.gl)).mono ?_
 rintro e w' ⟨d, h1, v, S1, β1, ⟨r, rfl, hr⟩, rfl, hE, hI, hR⟩
 have hin : ∀ b i, S1 b i → S b i ∨ w.heap.size ≤ b := by
  intro b i hs
  rcases hE.stay b i hs with g | g | ⟨r, c, k, g⟩
  ·exact .inl g
  ·exact .inr g
  ·simp at g
 obtain ⟨e1, e2⟩ := back_from (S' := S1) (h1 := h1) hi hE (fun _ _ h => h) (fun b i hs => (hE.keeps b i hs).1) hin hI.sb
 cases hR with
 | osl _ _ _ b c k1 p cap _ hb hl hp hcap =>
 have hge : w.heap.size ≤ b := by
  obtain ⟨k0, rfl⟩ := hI.kpos hr rfl hb
  rcases hE.fresh r b c k0 hb with g | ⟨r', c', k', g⟩
  ·exact g
  ·simp at g
 obtain ⟨f1, f2⟩ := hi.keepRow e1 e2 hI hr hb hge
 exact ⟨_, _, _, S1, _, ⟨rfl, rfl⟩, rfl, f1, f2, .osl _ 0 _ b c k1 p cap false (by rw [← hi.len]; simp) hl hp hcap⟩
def ixs (n : Nat) : List D := (List.range n).map fun (j : Nat) => dI j
theorem ixs_get {n : Nat} (h : j < n) : (ixs n)[j]? = some (dI j) := by simp [ixs, List.getElem?_range h]
theorem ixs_succ (n : Nat) : ixs (n + 1) = ixs n ++ [dI n] := by simp [ixs, List.range_succ]
theorem xr {α : Type} (h : List AObj) (t e k : Nat) (f : α → V) (xs : List α) (i : Int) (x : α) (hx : idx xs i = some x) (hT : (TM t).map (·.kind) = some (.slice e) := by kernel_rfl) (hk : sizeT TM e = some k := by kernel_rfl) (hf : ∀ x, (f x).cells.length = k := by intro _; rfl) : (indexAddrH TM h t (D.unt (.v (.sl .plain (xs.map f)))) (.v (.int .i64 i))).map (·, h) = some (.vptr (f x).cells, h) := ix_r h t e k .plain f xs i x hx hT hk hf
theorem bo (h : List AObj) (op : BinOp) (a b : Int) (v : Bool) (e : (binD TM op 3 (D.unt (dI a)) (D.unt (dI b))).map (·, h) = some (dB v, h)) : (binD TM op 3 (D.unt (dI a)) (D.unt (dI b))).map (·, h) = some (dB v, h) := e
theorem lr {α : Type} (h : List AObj) (t e : Nat) (f : α → V) (xs : List α) (hT : (TM t).map (·.kind) = some (.slice e) := by kernel_rfl) : (lenD TM t (D.unt (.v (.sl .plain (xs.map f))))).map (·, h) = some (.v (.int .i64 (xs.length : Int)), h) := len_r h t e .plain f xs hT
theorem lg {α : Type} (h : List AObj) (t e q : Nat) (g : AG) (f : α → V) (xs : List α) (hT : (TM t).map (·.kind) = some (.slice e) := by kernel_rfl) : (lenD TM t (D.unt (AG.d g q (xs.map f)))).map (·, h) = some (.v (.int .i64 (xs.length : Int)), h) := len_g h t e q g f xs hT
theorem lq (i : TI) (r off : Nat) (cs : List D) (d : D) (hr : h[r]? = some (.cells cs)) (hd : (cut cs off i.size).bind (mkOf i.kind.isAgg) = some d := by kernel_rfl) : (loadD i h (.ptr r off)).map (·, h) = some (d, h) := ldc hr hd
theorem sq (i : TI) (r off : Nat) (cs cs' : List D) (x : D) (hr : h[r]? = some (.cells cs)) (hs : (x.solid && x.cells.length == i.size) = true := by kernel_rfl) (hc : splice cs off x.cells = some cs' := by kernel_rfl) : (storeD i h (.ptr r off) x).map (U, ·) = some (U, h.set r (.cells cs')) := stc hr hs hc
theorem cP {n : Nat} (f0 : Nat) (ds : List D) (r : V) (ha : allM (argP h) ds = some ds := by kernel_rfl) (hf : ds.all D.freed = true := by kernel_rfl) (hr : Abs.frz [] 6 (.v r) = some r := by kernel_rfl) : callD (XP row n f0 ds r).E (XP row n f0 ds r).Γ f0 ds h = some (.v r, h) := callP ha hf hr
end Go.Abs.Ta
namespace Go.Abs.Tb
open Go.Sort Go.Proofs Go.Abs.Ta
set_option linter.unusedVariables false
set_option maxRecDepth 100000
set_option maxHeartbeats 4000000
abbrev vU (n : Int) : V := .int .u64 n
theorem is79 : Is Try.prog 79 := ⟨Try.f79, Try.func79, kr, kr⟩
variable {N : Nat}
theorem call79 (hN : N ≤ 300) : CallT False Try.prog 79 ([vU 1, vU N].map .v) [] fun d h' => d = .v (.tuple [vU 0, vU N]) ∧ h' = [] := by
 intro S β w us hrel hi
 have hs : us.size = 2 := hrel.1
 obtain ⟨a, b, rfl⟩ : ∃ a b, us = #[a, b] := size_two hs
 have ha := (hrel.2 0 a (.v (vU 1)) rfl rfl).of_v
 have hb := (hrel.2 1 b (.v (vU N)) rfl rfl).of_v
 cases ha
 cases hb
 refine (Try.bits_Mul 1 N om om w).mono ?_
 rintro e w' ⟨rfl, rfl⟩
 refine ⟨.v (.tuple [vU 0, vU N]), [], _, S, β, ⟨rfl, rfl⟩, rfl, Ext.refl _ _ _, ?_, .v _ _ (.tuple _ _ rfl fun i x y hx hy => ?_)⟩
 ·have hβ : β = [] := List.eq_nil_of_length_eq_zero hi.len
  subst hβ
  exact hi
 ·have e1 : ((1 * N / 18446744073709551616 : Nat) : Int) = 0 := by
   rw [Nat.one_mul, Nat.div_eq_of_lt om]; rfl
  have e2 : ((1 * N % 18446744073709551616 : Nat) : Int) = N := by
   rw [Nat.one_mul, Nat.mod_eq_of_lt om]
  rw [e1, e2] at hx
  match i with
  | 0 => simp at hx hy; subst hx; subst hy; exact .int _ _
  | 1 => simp at hx hy; subst hx; subst hy; exact .int _ _
  | i + 2 => simp at hx
variable {h : List AObj}
theorem cvU (hN : N ≤ 300) : (convD TM 3 124 (D.unt (dI N))).map (·, h) = some (.v (vU N), h) := by
 have : IntKind.wrap .u64 (N : Int) = N := by
  have : IntKind.wrap .u64 (N : Int) = (N : Int) % 18446744073709551616 := by simp [IntKind.wrap, IntKind.bits, IntKind.signed]
  rw [this]; omega
 show some (D.v (.int .u64 (IntKind.wrap .u64 (N : Int))), h) = _
 rw [this]
theorem cvI (hN : N ≤ 300) : (convD TM 124 3 (D.unt (.v (vU N)))).map (·, h) = some (dI N, h) := by
 have : IntKind.wrap .i64 (N : Int) = N := w64_id ⟨om, om⟩
 show some (D.v (.int .i64 (IntKind.wrap .i64 (N : Int))), h) = _
 rw [this]
theorem gtU (hN : N ≤ 300) : (binD TM .gtr 124 (D.unt (.v (vU N))) (D.unt (.v (vU 9223372036854775807)))).map (·, h) = some (dB false, h) := by
 show some (D.v (.bool (decide ((N : Int) > 9223372036854775807))), h) = _
 rw [decide_eq_false om]
abbrev oI (l : List Int) : AObj := .row 1 (l.map eI)
abbrev sI (q N : Nat) : D := .osl q 0 N false
theorem mkI (hN : N ≤ 20000) : makeSliceD TM 62 h (dI N) (dI N) = some (sI h.length N, h ++ [oI (List.replicate N 0)]) := by
 have := pil_mk (T := TM) h 62 3 ti3 eI N 0 (List.replicate N 0) (by
  unfold mk
  rw [if_pos ⟨om, by show (N : Int).toNat * 8 ≤ _; omega, by unfold maxLen; omega⟩]
  rfl) kr kr kr kr
 rw [this]
 simp [pilD, show ti3.size = 1 from rfl]
variable {q : Nat}
theorem lenI : (lenD TM 62 (D.unt (sI q N))).map (·, h) = some (dI N, h) := rfl
variable {k : Nat} {l : List Int}
theorem slHi (hq : h[q]? = some (oI l)) (hk : k < N) : (sliceD TM h 62 (D.unt (sI q N)) (some (dI k)) none none).map (·, h) = some (.osl q k (N - k) false, h) := by
 have h1 : TM 62 = some ti62 := rfl
 have hn : natOf (dI (k : Int)) = some k := by simp [natOf]
 have hs : shapeOk h q 1 = true := by simp [shapeOk, hq]
 simp only [D.unt, sliceD, h1, show ti62.kind = .slice 3 from rfl, boundsD, natOr, hn, show sizeT TM 3 = some 1 from rfl]
 rw [if_pos ⟨om, zL _⟩]
 simp only [hs, if_true]
 rw [if_neg (by simp; omega)]
 simp [fullTo]
theorem slLo (hq : h[q]? = some (oI l)) (hk : k ≤ N) (h0 : 0 < k) : (sliceD TM h 62 (D.unt (sI q N)) none (some (dI k)) none).map (·, h) = some (.osl q 0 k false, h) := by
 have h1 : TM 62 = some ti62 := rfl
 have hn : natOf (dI (k : Int)) = some k := by simp [natOf]
 have hs : shapeOk h q 1 = true := by simp [shapeOk, hq]
 simp only [D.unt, sliceD, h1, show ti62.kind = .slice 3 from rfl, boundsD, natOr, hn, show sizeT TM 3 = some 1 from rfl]
 rw [if_pos ⟨om, hk⟩]
 simp only [hs, if_true]
 rw [if_neg (by simp; omega)]
 simp [fullTo]
theorem cpI {off len : Nat} {xs : List Int} {s : D} (hq : h[q]? = some (oI l)) (hl : off + len ≤ l.length) (hs : elemsOf 1 h s.unt = some (xs.map eI)) :
  copyD TM 62 h (D.unt (.osl q off len false)) s.unt = some (dI (min xs.length len : Nat), h.set q (oI (l.take off ++ (xs.take len ++ l.drop (off + min xs.length len))))) := by
 have h1 : TM 62 = some ti62 := rfl
 have h2 : TM 3 = some ti3 := rfl
 simp only [D.unt] at hs ⊢
 simp only [copyD, h1, show ti62.kind = .slice 3 from rfl, hq, h2]
 rw [if_pos ⟨rfl, trivial, by simpa using hl⟩, hs]
 simp [oI, List.map_append, List.map_take, List.map_drop]
noncomputable def C53 : Code := bodyOf Try.prog 53
noncomputable abbrev LP53 : Code := cL (cL (cR (cR (cR (cR (cR (cR C53)))))))
abbrev KR : List Nat := [7, 8]
abbrev Sr (q N : Nat) (k : Int) (G : List AObj) : St := Sm 48 [(7, sI q N), (8, dI k)] G
abbrev rep (x : Int) (k N : Nat) : List Int := List.replicate k x ++ List.replicate (N - k) 0
def IR (x : Int) (N : Nat) : Nat → St → Prop := fun K σ => ∃ (k q : Nat) (G : List AObj), k + K = N ∧ (0 < N → 0 < k) ∧ G[q]? = some (oI (rep x k N)) ∧ Abs.forget KR σ = Sr q N k G
variable {x : Int}
theorem loop53 (n : Nat) (hN : N ≤ 300) (hk : k ≤ N) (h0 : 0 < N → 0 < k) {G : List AObj} (hq : G[q]? = some (oI (rep x k N))) {Q : Post}
  (hQ : ∀ q G σ, G[q]? = some (oI (List.replicate N x)) → Abs.forget KR σ = Sr q N N G → Q (.exit 0) σ) : HT LP53 (Sr q N k G) Q := by
 refine Ht.loop (IR x N) (N - k) kr ⟨k, q, G, om, h0, hq, kr⟩ ?_
 clear hq h0 hk
 rintro K σ ⟨k, q, G, hK, h0, hq, hσ⟩
 refine Hg KR hσ ?_
 clear hσ
 have hxn := hxR n
 refine Hs <| Hs <| Hr hxn <| Og 2 <| Oo (fun h0 e0 => lenI (h := h0) (q := q) (N := N)) <| Og 1 <| On <| Hd ((k : Int) < (N : Int)) (fun hc => ?_) (fun hc => ?_)
 case refine_2 =>
  have hk : k = N := by omega
  subst hk
  refine Ht.exit (id := 0) kr <| hQ q G _ ?_ kr
  simpa [rep] using hq
 have hlt : k < N := by omega
 have hpos : 0 < k := h0 om
 refine Hk <| seqH.n <| Hb 1 ?_
 have hl : (rep x k N).length = N := by simp; omega
 refine Hr hxn <| Ops.seg' 3 3 kr <| Ops.one' 4 (fun h0 e0 => slHi (h := h0) (N := N) (k := k) (Hw e0 hq) hlt) kr kr ?_
 refine Ops.seg' 2 6 kr <| Ops.one' 7 (fun h0 e0 => slLo (h := h0) (N := N) (k := k) (Hw e0 hq) om hpos) kr kr ?_
 refine Ops.one' 8 (fun h0 e0 => cpI (h := h0) (q := q) (off := k) (len := N - k) (l := rep x k N) (xs := List.replicate k x) (s := .osl q 0 k false) (Hw e0 hq) om (by simp only [D.unt, elemsOf]; rw [show h0[q]? = some (oI (rep x k N)) from (Hw e0 hq)]; simp)) kr kr ?_
 refine Ops.seg' 2 10 kr <| Od <| blkH.n ?_
 have hm : min (List.replicate k x).length (N - k) = min k (N - k) := by simp
 have e1 : (rep x k N).take k ++ ((List.replicate k x).take (N - k) ++ (rep x k N).drop (k + min (List.replicate k x).length (N - k))) = rep x (k + min k (N - k)) N := by
  rw [hm]
  simp only [rep]
  rw [List.take_left' (by simp), List.take_replicate, List.drop_append, zV, zT (by simp), List.nil_append, List.drop_replicate, ← List.append_assoc, List.replicate_append_replicate]
  congr 2
  ·omega
  ·omega
 refine ⟨N - (k + min k (N - k)), om, k + min k (N - k), q, G.set q (oI (rep x (k + min k (N - k)) N)), om, fun _ => by omega, set_new hq, ?_⟩
 have e2 : ((k + min k (N - k) : Nat) : Int) = w64 ((k : Int) + (min (List.replicate k x).length (N - k) : Nat)) := by
  rw [hm, w64_id ⟨om, om⟩]; omega
 refine Eq.trans (b := Sr q N (w64 ((k : Int) + (min (List.replicate k x).length (N - k) : Nat))) (G.set q (oI ((rep x k N).take k ++ ((List.replicate k x).take (N - k) ++ (rep x k N).drop (k + min (List.replicate k x).length (N - k))))))) kr (by rw [e1, ← e2])
theorem rp53 (n : Nat) (x : Int) (hN : N ≤ 300) : HT (bodyOf Try.prog 53) (startIn Try.prog 53 [.v (.sl .nonfull [vI x]), dI N] []) (fun e σ => (e = .normal ∨ e = .ret) ∧ ∃ d, resultsD TM σ (resOf Try.prog 53) = some d ∧ ∃ r, d = .osl r 0 N false ∧ σ.heap[r]? = some (oI (List.replicate N x))) := by
 show HT C53 _ _
 have hxn := hxR n
 have hxp := hxP false n is79 (call79 hN)
 refine Hs <| Hr hxn <| Og 1 <| On <| Hs <| Hs <| Hr hxn <| Og 2 <| On <| Hd ((N : Int) < 0) (fun hc => ?_) (fun hc => ?_)
 case refine_1 =>
  omega
 refine Hk <| seqH.n <| Hs <| Hr hxp <| Og 4 <| Oo (fun h0 e0 => cvU (h := h0) hN) <| Oo (fun h0 e0 => callP (row := false) (n := n) (f0 := 79) (ds0 := [vU 1, vU N].map .v) (ds := [.v (vU 1), .v (vU N)]) (h := h0) (r := .tuple [vU 0, vU N]) rfl rfl rfl) <| Og 5 <| On <| Hs <| Hs <| Hr hxn <| Og 4 <| Oo (fun h0 e0 => gtU (h := h0) hN) <| Og 1 <| On <| Hz <| Hk <| seqH.n <| Hs <| Hr hxn <| Og 1 <| Oo (fun h0 e0 => cvI (h := h0) hN) <| Oo (fun h0 e0 => mkI (h := h0) (N := N) om) <| Og 1 <| On <| Hs <| Hf [0, 7] (Sm 48 [(0, .v (.sl .nonfull [vI x])), (7, sI 0 N)] [oI (List.replicate N 0)]) <| Hr hxn <| Ops.seg' 2 2 kr <| Ops.one' 3 (fun h0 e0 => cpI (h := h0) (q := 0) (off := 0) (len := N) (l := List.replicate N 0) (xs := [x]) (s := .v (.sl .nonfull [vI x])) (Hw (g := [oI (List.replicate N 0)]) e0 rfl) (by simp) kr) kr kr ?_
 refine Ops.seg' 1 4 kr <| On ?_
 have e1 : (List.replicate N (0 : Int)).take 0 ++ ([x].take N ++ (List.replicate N 0).drop (0 + min [x].length N)) = rep x (min 1 N) N := by
  cases N with
  | zero => rfl
  | succ m => simp [rep, Nat.min_eq_left (show 1 ≤ m + 1 by omega)]
 refine Hf KR (Sr 0 N (min [x].length N : Nat) [oI ((List.replicate N (0 : Int)).take 0 ++ ([x].take N ++ (List.replicate N 0).drop (0 + min [x].length N)))]) ?_
 rw [e1]
 refine Hs <| Hb 0 <| loop53 n hN (k := min 1 N) om (fun _ => by omega) rfl fun q G σ hq hσ => ?_
 refine blkH.x <| seqH.n <| Hg KR hσ <| Hs <| Hr hxn <| Og 2 <| On <| Ht.ret kr ?_
 have hr : resOf Try.prog 53 = [.tmp 4] := by kernel_rfl
 refine ⟨.inr rfl, sI q N, ?_, q, rfl, hq⟩
 rw [hr]
 kernel_rfl
theorem is53 : Is Try.prog 53 := ⟨Try.f53, Try.func53, kr, kr⟩
theorem call53 (hN : N ≤ 300) (hp : List AObj) : CallT False Try.prog 53 [.v (.sl .nonfull [vI x]), dI N] hp fun d h' => d = .osl hp.length 0 N false ∧ h' = hp ++ [oI (List.replicate N x)] := by
 have hc := callT_of_ht (Qc := fun d h' => ∃ r, d = .osl r 0 N false ∧ h'[r]? = some (oI (List.replicate N x))) (c := bodyOf Try.prog 53) (h := []) Try.func53 kr TM_ok (rp53 0 x hN)
 have := rowBack (DR := False) (P := Try.prog) (f := 53) (vs := [V.sl .nonfull [vI x], vI N]) (es := (List.replicate N x).map eI) (k := 1) (hc.mono fun d h' hd => by
  rw [List.length_map, zV]
  exact hd) hp
 rw [List.length_map, zV] at this
 exact this
end Go.Abs.Tb
namespace Go.Abs.Tc
open Go.Sort Go.Proofs Go.Abs.Ta Go.Abs.Tb
set_option linter.unusedVariables false
set_option maxRecDepth 100000
set_option maxHeartbeats 4000000
def arcIn (NL : Nat) (R : List (List Int)) (x : S52) : Option (List (List Int)) := match idx R x.fFr with
 | none => none
 | some r => if 0 ≤ x.fIn - 1 ∧ (x.fIn - 1).toNat < NL then some (R.set x.fFr.toNat (r.set (x.fIn - 1).toNat x.fTo)) else none
def arcsIn (NL : Nat) : List S52 → List (List Int) → Option (List (List Int))
 | [], R => some R
 | x :: r, R => match arcIn NL R x with
  | none => none
  | some R' => arcsIn NL r R'
def finsIn : List S54 → List Bool → Option (List Bool)
 | [], F => some F
 | x :: r, F => match upd F x.fSe true with
  | none => none
  | some F' => finsIn r F'
def f52 (m : S27) (ls : List Int) : Option (List (List Int) × List Bool) :=
 if 0 ≤ m.fSt ∧ m.fSt ≤ 20000 ∧ ls.length ≤ 300 ∧ m.fAs.length < 100000000 ∧ m.fFn.length < 100000000 then
  match arcsIn ls.length m.fAs (List.replicate m.fSt.toNat (List.replicate ls.length (-1))) with
  | none => none
  | some R => match finsIn m.fFn (List.replicate m.fSt.toNat false) with
   | none => none
   | some F => some (R, F)
 else none
abbrev nilS : V := .sl .nil []
def tC (b N L i : Nat) : List D := (List.range N).map fun t => if t < i then sI (b + t) L else .v nilS
theorem tC_len (b N L i : Nat) : (tC b N L i).length = N := by simp [tC]
theorem tC_zero (b N L : Nat) : List.replicate N (D.v nilS) = tC b N L 0 := by
 unfold tC
 refine List.ext_getElem (by simp) fun i h1 h2 => ?_
 simp
theorem tC_set (b N L i : Nat) (hi : i < N) : (tC b N L i).set i (sI (b + i) L) = tC b N L (i + 1) := by
 unfold tC
 refine List.ext_getElem (by simp) fun j h1 h2 => ?_
 rw [List.getElem_set]
 simp only [List.getElem_map, List.getElem_range]
 by_cases h : i = j
 ·subst h; rw [if_pos rfl, if_pos om]
 ·rw [if_neg h]
  by_cases h3 : j < i
  ·rw [if_pos h3, if_pos om]
  ·rw [if_neg h3, if_neg om]
variable {j : Nat}
theorem tC_get (b N L : Nat) (hj : j < N) : (tC b N L N)[j]? = some (sI (b + j) L) := by
 rw [zA (by rw [tC_len]; exact hj)]
 simp [tC, hj]
abbrev oB (l : List Bool) : AObj := .row 1 (l.map eB)
variable {N : Nat} {h : List AObj}
theorem mkB (hN : N ≤ 20000) : makeSliceD TM 66 h (dI N) (dI N) = some (sI h.length N, h ++ [oB (List.replicate N false)]) := by
 have := pil_mk (T := TM) h 66 4 ti4 eB N false (List.replicate N false) (by
  unfold mk
  rw [if_pos ⟨om, by show (N : Int).toNat * 1 ≤ _; omega, by unfold maxLen; omega⟩]
  rfl) kr kr kr kr
 rw [this]
 simp [pilD, show ti4.size = 1 from rfl]
theorem mkL (hN : N ≤ 20000) : makeSliceD TM 65 h (dI N) (dI N) = some (sI h.length N, h ++ [.cells (List.replicate N (.v nilS))]) := by
 have hn : natOf (dI (N : Int)) = some N := by simp [natOf]
 have h1 : TM 65 = some ti65 := rfl
 have h2 : TM 62 = some ti62 := rfl
 unfold makeSliceD
 simp only [h1, hn, show ti65.kind = .slice 62 from rfl, h2]
 rw [if_pos ⟨zL _, by show N * 24 ≤ _; omega, by unfold maxLen; omega, by decide, rfl, rfl⟩]
 rfl
variable {cs : List D} {i q : Nat} {x : Int}
theorem ixO (hq : h[q]? = some (.cells cs)) (hx : x = (i : Int)) (hi : i < N) : (indexAddrH TM h 65 (D.unt (sI q N)) (dI x)).map (·, h) = some (.ptr q i, h) := by
 subst hx
 have hn : natOf (dI (i : Int)) = some i := by simp [natOf]
 have h1 : TM 65 = some ti65 := rfl
 simp only [D.unt, indexAddrH, h1, show ti65.kind = .slice 62 from rfl, hn, if_pos hi, show sizeT TM 62 = some 1 from rfl, hq, Option.map_some, Nat.zero_add]
variable {b : List Int} {r : Nat}
theorem ixI (hq : h[r]? = some (oI b)) (hx : x = (i : Int)) (hi : i < N) : (indexAddrH TM h 62 (D.unt (sI r N)) (dI x)).map (·, h) = some (.eptr r i 0, h) := by
 subst hx
 have hn : natOf (dI (i : Int)) = some i := by simp [natOf]
 have h1 : TM 62 = some ti62 := rfl
 simp only [D.unt, indexAddrH, h1, show ti62.kind = .slice 3 from rfl, hn, if_pos hi, show sizeT TM 3 = some 1 from rfl, hq, if_true, Option.map_some, Nat.zero_add]
theorem ixB {b : List Bool} (hq : h[r]? = some (oB b)) (hx : x = (i : Int)) (hi : i < N) : (indexAddrH TM h 66 (D.unt (sI r N)) (dI x)).map (·, h) = some (.eptr r i 0, h) := by
 subst hx
 have hn : natOf (dI (i : Int)) = some i := by simp [natOf]
 have h1 : TM 66 = some ti66 := rfl
 simp only [D.unt, indexAddrH, h1, show ti66.kind = .slice 4 from rfl, hn, if_pos hi, show sizeT TM 4 = some 1 from rfl, hq, if_true, Option.map_some, Nat.zero_add]
theorem ldO {d : D} (hq : h[q]? = some (.cells cs)) (hd : cs[i]? = some d) : (loadD ti62 h (.ptr q i)).map (·, h) = some (d, h) := by
 have hi := yE hd
 have hc : cut cs i ti62.size = some [d] := by
  show (if i + 1 ≤ cs.length then some ((cs.drop i).take 1) else none) = _
  rw [if_pos om]
  rw [zI hi]
  rw [zA hi] at hd
  simp [zC hd]
 simp only [loadD, hq, hc, Option.bind_some]
 rfl
theorem ldI (hq : h[r]? = some (oI b)) (hx : b[i]? = some x) : (loadD ti3 h (.eptr r i 0)).map (·, h) = some (dI x, h) := by
 have hx' : (b.map eI)[i]? = some (eI x) := by rw [zG, hx]; rfl
 simp only [loadD, hq, hx']
 rfl
theorem ldB {b : List Bool} {x : Bool} (hq : h[r]? = some (oB b)) (hx : b[i]? = some x) : (loadD ti4 h (.eptr r i 0)).map (·, h) = some (dB x, h) := by
 have hx' : (b.map eB)[i]? = some (eB x) := by rw [zG, hx]; rfl
 simp only [loadD, hq, hx']
 rfl
theorem stO (hq : h[q]? = some (.cells cs)) (hi : i < cs.length) : (storeD ti62 h (.ptr q i) (sI r N)).map (U, ·) = some (U, h.set q (.cells (cs.set i (sI r N)))) := by
 have hs : splice cs i [sI r N] = some (cs.set i (sI r N)) := by
  unfold splice
  rw [if_pos (by simp; omega)]
  rw [List.set_eq_take_append_cons_drop, if_pos hi]
  simp
 have h1 : ((sI r N).solid && (sI r N).cells.length == ti62.size) = true := rfl
 have h2 : splice cs i (sI r N).cells = some (cs.set i (sI r N)) := hs
 simp only [storeD, h1, if_true, hq, h2, Option.map_some]
theorem stI (hq : h[r]? = some (oI b)) (hi : i < b.length) : (storeD ti3 h (.eptr r i 0) (dI x)).map (U, ·) = some (U, h.set r (oI (b.set i x))) := by
 have hx' : (b.map eI)[i]? = some (eI b[i]) := by rw [zG, zA hi]; rfl
 have h1 : ((D.v (eI x)).solid && (D.v (eI x)).cells.length == ti3.size) = true := rfl
 have h2 : storeV (eI b[i]) (eI x) 0 = some (eI x) := rfl
 have h3 : ((eI x).cells.length == 1 && (eI x).solid) = true := rfl
 show (storeD ti3 h (.eptr r i 0) (.v (eI x))).map (U, ·) = _
 simp only [storeD, h1, if_true, hq, hx', h2, h3, Option.map_some, oI, List.map_set]
theorem stB {b : List Bool} {x : Bool} (hq : h[r]? = some (oB b)) (hi : i < b.length) : (storeD ti4 h (.eptr r i 0) (dB x)).map (U, ·) = some (U, h.set r (oB (b.set i x))) := by
 have hx' : (b.map eB)[i]? = some (eB b[i]) := by rw [zG, zA hi]; rfl
 have h1 : ((D.v (eB x)).solid && (D.v (eB x)).cells.length == ti4.size) = true := rfl
 have h2 : storeV (eB b[i]) (eB x) 0 = some (eB x) := rfl
 have h3 : ((eB x).cells.length == 1 && (eB x).solid) = true := rfl
 show (storeD ti4 h (.eptr r i 0) (.v (eB x))).map (U, ·) = _
 simp only [storeD, h1, if_true, hq, hx', h2, h3, Option.map_some, oB, List.map_set]
structure Tb (G : List AObj) (q b L : Nat) (R : List (List Int)) : Prop where
 out : G[q]? = some (.cells (tC b R.length L R.length))
 row : ∀ (i : Nat) r, R[i]? = some r → r.length = L ∧ G[b + i]? = some (oI r)
theorem Tb.app {G q b L R} (h : Tb G q b L R) (l : List AObj) : Tb (G ++ l) q b L R := ⟨app_keep h.out, fun i r hi => ⟨(h.row i r hi).1, app_keep (h.row i r hi).2⟩⟩
theorem Tb.keep {G q b L R} (h : Tb G q b L R) {p : Nat} {x : AObj} (hq : p ≠ q) (hb : p < b ∨ b + R.length ≤ p) : Tb (G.set p x) q b L R :=
 ⟨set_keep hq h.out, fun i r hi => ⟨(h.row i r hi).1, set_keep (by have := yE hi; omega) (h.row i r hi).2⟩⟩
theorem Tb.set {G q b L R} (h : Tb G q b L R) (hqb : q < b) {r : List Int} (hr : R[i]? = some r) : Tb (G.set (b + i) (oI (r.set j x))) q b L (R.set i (r.set j x)) := by
 obtain ⟨h1, h2⟩ := h.row i r hr
 refine ⟨?_, fun k s hk => ?_⟩
 ·rw [zP]; exact set_keep om h.out
 ·rw [zR] at hk
  split at hk
  ·rename_i e; subst e
   split at hk
   ·cases hk
    exact ⟨by rw [zP]; exact h1, set_new h2⟩
   ·cases hk
  ·obtain ⟨g1, g2⟩ := h.row k s hk
   exact ⟨g1, set_keep om g2⟩
theorem allM_map {α β : Type} {f : α → Option β} : ∀ {l : List α} {g : α → β}, (∀ x ∈ l, f x = some (g x)) → allM f l = some (l.map g)
 | [], g, h => rfl
 | x :: r, g, h => by
  simp only [allM, h x (zH ..), allM_map (l := r) (g := g) fun y hy => h y (zF _ hy), List.map_cons]
theorem frz_row {n k : Nat} {es : List V} (hq : h[q]? = some (.row k es)) : Abs.frz h (n + 1) (.osl q 0 es.length false) = some (.sl .plain es) := by
 have := pil_frz h n q k es hq
 exact this
theorem Tb.frz {G q b L R} (h : Tb G q b L R) (n : Nat) : Abs.frz G (n + 2) (sI q R.length) = some (eL (eL eI) R) := by
 have hcl : (tC b R.length L R.length).length = R.length := tC_len ..
 have hall : allM (Abs.frz G (n + 1)) (tC b R.length L R.length) = some (R.map (eL eI)) := by
  have e1 : tC b R.length L R.length = (List.range R.length).map fun t => sI (b + t) L := by
   unfold tC
   refine List.map_congr_left fun t ht => ?_
   rw [if_pos (List.mem_range.1 ht)]
  have e2 : R.map (eL eI) = ((List.range R.length).map fun t => sI (b + t) L).map fun d => (Abs.frz G (n + 1) d).getD (.bool false) := by
   rw [List.map_map]
   refine List.ext_getElem (by simp) fun i h1 h2 => ?_
   simp only [List.getElem_map, List.getElem_range, Function.comp]
   have hi : i < R.length := by simpa using h1
   obtain ⟨g1, g2⟩ := h.row i R[i] (zA hi)
   have := frz_row (n := n) g2
   rw [List.length_map, g1] at this
   rw [show sI (b + i) L = .osl (b + i) 0 L false from rfl, this]
   rfl
  rw [e1, e2]
  refine allM_map fun d hd => ?_
  obtain ⟨t, ht, rfl⟩ := List.mem_map.1 hd
  have hi := List.mem_range.1 ht
  obtain ⟨g1, g2⟩ := h.row t R[t] (zA hi)
  have := frz_row (n := n) g2
  rw [List.length_map, g1] at this
  rw [show sI (b + t) L = .osl (b + t) 0 L false from rfl, this]
  rfl
 have hsc : (R.map (eL eI)).all V.scalar = true := by
  rw [List.all_map]
  exact zZ.2 fun x _ => rfl
 show Abs.frz G (n + 1 + 1) (.osl q 0 R.length false) = _
 simp only [Abs.frz, h.out]
 rw [if_pos om, List.drop_zero, zX om]
 have hall' : allM (Abs.frz G (n + 1)) (tC b R.length L R.length) = some (R.map (eL eI)) := hall
 rw [hall']
 simp only [hsc, if_true]
 rfl
set_option maxHeartbeats 4000000
variable {Q : Post}
theorem Ht.allO {DR : Prop} {P : Program} {X : Cx} {c : Code} {σ σ1 : St} (H : Hx DR P X) (hc : isDrawn c = true) (h : AllO X.E X.Γ (opsOf c) σ.heap.length σ1 (opsOf c).size (Array.replicate (opsOf c).size false) σ) (hq : Q .normal σ1) : Ht DR P c σ Q := by
 cases c <;> first | (cases hc; done) | skip
 rename_i p ops draw
 have hd : draw = true := hc
 subst hd
 intro S β a w hI
 have hI' : Inv S β σ a w.drew := ⟨hI.size, fun i v d g1 g2 => (hI.tmps i v d g1 g2).mono (w := w) (w' := w.drew) (fun _ _ h => ⟨h, rfl⟩) (fun _ _ h => h), hI.heap.drew, hI.defers⟩
 exact wp_region_any H.mixed (AllO.sound H.types H.calls (S0 := S) (β0 := β) (w0 := w) (by rw [hI.heap.len]; exact zL _) (fun S' β' a' w' hI2 hE2 => ⟨.normal, σ1, hq, rfl, S', β', hI2, hE2⟩) ops.size _ σ h S β a w.drew hI' (Ext.drew S β w))
section
variable {E : Env} {Γ : Calling} {ops : Array Oper} {L0 : Nat} {σ1 σ : St} {listed : Array Bool}
theorem AllO.first {n : Nat} (i : Nat) (oi : Oper) (σ' : St) (ho : ops[i]? = some oi) (hi : ((Region.ready .any ops listed).contains i && indepB E ops listed i) = true) (ha : aop E Γ ops.toList oi σ = some σ') (h : AllO E Γ ops L0 σ1 n (listed.setIfInBounds i true) σ') : AllO E Γ ops L0 σ1 (n + 1) listed σ := by
 rw [Bool.and_eq_true] at hi
 obtain ⟨hi, hb⟩ := hi
 unfold indepB at hb
 rw [Bool.and_eq_true] at hb
 obtain ⟨b1, b2⟩ := hb
 rw [ho] at b2
 refine AllO.por ho (R := growN ops listed i ops.size []) (fun j hj oj hoj => ?_) n listed σ σ' (List.contains_iff_mem.1 hi) (fun j hj => List.contains_iff_mem.1 (zZ.1 b1 j hj)) ha h
 have := zZ.1 b2 j hj
 rw [hoj] at this
 exact this
theorem AllO.one {n : Nat} (i : Nat) (oi : Oper) (σ' : St) (ho : ops[i]? = some oi) (hr : Region.ready .any ops listed = [i]) (ha : aop E Γ ops.toList oi σ = some σ') (h : AllO E Γ ops L0 σ1 n (listed.setIfInBounds i true) σ') : AllO E Γ ops L0 σ1 (n + 1) listed σ := by
 refine ⟨fun h => by (rw [hr] at h; cases h), fun k hk => ?_⟩
 rw [hr, List.mem_singleton] at hk
 subst hk
 exact ⟨oi, σ', ho, ha, h⟩
theorem AllO.two {n : Nat} (i j : Nat) (oi oj : Oper) (σi σj : St) (hr : Region.ready .any ops listed = [i, j]) (hi : ops[i]? = some oi) (hj : ops[j]? = some oj) (ai : aop E Γ ops.toList oi σ = some σi) (aj : aop E Γ ops.toList oj σ = some σj)
  (h1 : AllO E Γ ops L0 σ1 n (listed.setIfInBounds i true) σi) (h2 : AllO E Γ ops L0 σ1 n (listed.setIfInBounds j true) σj) : AllO E Γ ops L0 σ1 (n + 1) listed σ := by
 refine ⟨fun h => by (rw [hr] at h; cases h), fun k hk => ?_⟩
 rw [hr] at hk
 simp only [List.mem_cons, List.not_mem_nil, or_false] at hk
 rcases hk with rfl | rfl
 ·exact ⟨oi, σi, hi, ai, h1⟩
 ·exact ⟨oj, σj, hj, aj, h2⟩
theorem AllO.fin (hr : Region.ready .any ops listed = []) (hc : canonS L0 σ = σ1) : AllO E Γ ops L0 σ1 0 listed σ := ⟨hr, hc⟩
end
noncomputable def C52 : Code := bodyOf Try.prog 52
noncomputable abbrev O52 : Array Oper := opsOf (cL (cR C52))
noncomputable abbrev o52 (i : Nat) : Oper := O52.getD i default
abbrev mC (N : Nat) (A : List S52) (F : List S54) : AObj := .cells [dI N, dP e52 A, dP e54 F]
abbrev lC (ls : List Int) : D := .vptr [vP eI ls]
theorem make52 (n : Nat) {N : Nat} (hN : N ≤ 20000) {A : List S52} {F : List S54} {ls : List Int}
  (hQ : ∀ σ, Abs.forget [1, 2, 5, 6] σ = Sm 64 [(1, lC ls), (2, .ptr 0 0), (5, sI 1 N), (6, sI 2 N)] [mC N A F, .cells (List.replicate N (.v nilS)), oB (List.replicate N false)] → Q .normal σ) :
  HT (cL (cR C52)) (Sm 64 [(1, lC ls), (2, .ptr 0 0)] [mC N A F]) Q := by
 let S (l : List (Nat × D)) (h : List AObj) : St := Sm 64 ([(1, lC ls), (2, .ptr 0 0)] ++ l) (mC N A F :: h)
 let r5 : AObj := .cells (List.replicate N (.v nilS))
 let r6 : AObj := oB (List.replicate N false)
 refine Ht.allO (σ1 := S [(5, sI 1 N), (6, sI 2 N), (12, .ptr 0 0), (13, dI N), (14, sI 1 N), (15, .ptr 0 0), (16, dI N), (17, sI 2 N)] [r5, r6]) (hxM n) kr ?_ (hQ _ kr)
 have hm : ∀ (l : List (Nat × D)) (h : List AObj) (d : D) (h' : List AObj), aeff (XM n).E (XM n).Γ O52.toList (o52 2) (S l h) = makeSliceD TM 65 (mC N A F :: h) (dI N) (dI N) → True := fun _ _ _ _ _ => trivial
 show AllO (XM n).E (XM n).Γ O52 1 _ 8 _ _
 refine AllO.first 0 (o52 0) (S [(12, .ptr 0 0)] []) kr kr kr <| AllO.first 3 (o52 3) (S [(12, .ptr 0 0), (15, .ptr 0 0)] []) kr kr kr <| AllO.first 1 (o52 1) (S [(12, .ptr 0 0), (13, dI N), (15, .ptr 0 0)] []) kr kr kr <| AllO.first 4 (o52 4) (S [(12, .ptr 0 0), (13, dI N), (15, .ptr 0 0), (16, dI N)] []) kr kr kr ?_
 have put : ∀ (o : Oper) (σ : St) (d : D) (h' : List AObj), aeff (XM n).E (XM n).Γ O52.toList o σ = some (d, h') → aop (XM n).E (XM n).Γ O52.toList o σ = some (σ.put o.dst d h') := fun o σ d h' e => by unfold aop; rw [e]
 refine AllO.two 2 5 (o52 2) (o52 5) _ _ kr kr kr (put _ _ _ _ ((show aeff (XM n).E (XM n).Γ O52.toList (o52 2) _ = makeSliceD TM 65 [mC N A F] (dI N) (dI N) by kernel_rfl).trans (mkL hN))) (put _ _ _ _ ((show aeff (XM n).E (XM n).Γ O52.toList (o52 5) _ = makeSliceD TM 66 [mC N A F] (dI N) (dI N) by kernel_rfl).trans (mkB hN))) ?_ ?_
 ·refine AllO.first 6 (o52 6) (S [(5, sI 1 N), (12, .ptr 0 0), (13, dI N), (14, sI 1 N), (15, .ptr 0 0), (16, dI N)] [r5]) kr kr kr <| AllO.one 5 (o52 5) _ kr kr (put _ _ _ _ ((show aeff (XM n).E (XM n).Γ O52.toList (o52 5) _ = makeSliceD TM 66 [mC N A F, r5] (dI N) (dI N) by kernel_rfl).trans (mkB hN))) <| AllO.one 7 (o52 7) (S [(5, sI 1 N), (6, sI 2 N), (12, .ptr 0 0), (13, dI N), (14, sI 1 N), (15, .ptr 0 0), (16, dI N), (17, sI 2 N)] [r5, r6]) kr kr kr ?_
  exact AllO.fin kr kr
 ·refine AllO.one 2 (o52 2) _ kr kr (put _ _ _ _ ((show aeff (XM n).E (XM n).Γ O52.toList (o52 2) _ = makeSliceD TM 65 [mC N A F, r6] (dI N) (dI N) by kernel_rfl).trans (mkL hN))) <| AllO.one 6 (o52 6) (S [(5, sI 2 N), (12, .ptr 0 0), (13, dI N), (14, sI 2 N), (15, .ptr 0 0), (16, dI N), (17, sI 1 N)] [r6, r5]) kr kr kr <| AllO.one 7 (o52 7) (S [(5, sI 2 N), (6, sI 1 N), (12, .ptr 0 0), (13, dI N), (14, sI 2 N), (15, .ptr 0 0), (16, dI N), (17, sI 1 N)] [r6, r5]) kr kr kr <| AllO.fin kr (Eq.trans (b := S [(5, sI 1 N), (6, sI 2 N), (12, .ptr 0 0), (13, dI N), (14, sI 1 N), (15, .ptr 0 0), (16, dI N), (17, sI 2 N)] [.cells ((List.replicate N (.v nilS)).map (D.ren (swL 1) 5)), r6]) kr ?_)
  rw [List.map_replicate]
  rfl
end Go.Abs.Tc
