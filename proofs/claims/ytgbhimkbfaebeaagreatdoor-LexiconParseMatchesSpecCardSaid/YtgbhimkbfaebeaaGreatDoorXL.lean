import Derived.Test.YtgbhimkbfaebeaaGreatDoorXP
import Derived.Test.YtgbhimkbfaebeaaGreatDoorAbsPc
namespace Go.Abs.Xl
open Go.Sort Go.Proofs Go.Abs.Xi Go.Abs.Xp
set_option linter.unusedVariables false
set_option linter.unusedSimpArgs false
set_option linter.unnecessarySimpa false
set_option maxRecDepth 100000
set_option maxHeartbeats 4000000
def itEq (m : Nat) (p q : S46) : Option Bool :=
 if (p.fBase.toList == q.fBase.toList) = true ∧ (p.fForm.toList == q.fForm.toList) = true ∧ p.fNext = q.fNext ∧ p.fWeight = q.fWeight then f12 m p.fTags q.fTags else some false
def itsEq (m : Nat) : List S46 → List S46 → Option Bool
 | p :: r, q :: s => match itEq m p q with
  | some true => itsEq m r s
  | o => o
 | _, _ => some true
def clEq (m : Nat) (x y : S44) : Option Bool := if (x.fName.toList == y.fName.toList) = true ∧ x.fItems.length = y.fItems.length then (if x.fItems.length ≤ 1000000 then itsEq m x.fItems y.fItems else none) else some false
def clsEq (m : Nat) : List S44 → List S44 → Option Bool
 | x :: r, y :: s => match clEq m x y with
  | some true => clsEq m r s
  | o => o
 | _, _ => some true
def f16 (m : Nat) (a b : S23) : Option Bool := if a.fClasses.length = b.fClasses.length then (if a.fClasses.length ≤ 1000000 then clsEq m a.fClasses b.fClasses else none) else some false
def Fin16 (b : Bool) (σ : St) : Prop := ∃ d, resultsD T σ (resOf Tryz.prog 16) = some d ∧ frz σ.heap 15 d = some (.bool b)
theorem finB {σ : St} {b : Bool} (h : σ.tmps.getD 4 .undef = .v (.bool b)) : Fin16 b σ := by
 refine ⟨.v (.bool b), ?_, rfl⟩
 rw [show resOf Tryz.prog 16 = [.tmp 4] by kernel_rfl]
 simp only [resultsD, allM, resultD, h]
theorem bsub {x b : Bool} (e : x = b) (h : List AObj) : some (D.v (.bool x), h) = some (D.v (.bool b), h) := by rw [e]
noncomputable def C16 : Code := bodyOf Tryz.prog 16
noncomputable abbrev OL : Code := cL (cR (cL (cR (cR C16))))
noncomputable abbrev OB : Code := cL OL
noncomputable abbrev BK : Code := cL (cL (cR (cR OB)))
noncomputable abbrev IL : Code := cL (cR (cR (cR (cR BK))))
noncomputable abbrev IB : Code := cL IL
noncomputable abbrev IK : Code := cL (cL (cR (cR IB)))
abbrev yX (x : S44) : AObj := .cells [.v (.str x.fName), .v (vP e46 x.fItems)]
abbrev yL (l : List S44) : AObj := .cells [.v (vP e44 l)]
abbrev KI : List Nat := [2, 3, 4, 6, 7, 20, 21, 50, 51]
abbrev SI (la i : Int) (p : Nat) (lx k : Int) (G : List AObj) : St := Sm 100 [(2, .ptr 0 0), (3, .ptr 1 0), (4, .v (.bool false)), (6, .ptr p 0), (7, .ptr (p + 1) 0), (20, dI la), (21, dI i), (50, dI lx), (51, dI k)] G
structure InvI (a b : List S44) (x y : S44) (p : Nat) (G : List AObj) : Prop where
 g0 : G[0]? = some (yL a)
 g1 : G[1]? = some (yL b)
 g2 : G[p]? = some (yX x)
 g3 : G[p + 1]? = some (yX y)
theorem InvI.app {a b : List S44} {x y : S44} {p : Nat} {G : List AObj} (h : InvI a b x y p G) (l : List AObj) : InvI a b x y p (G ++ l) := ⟨app_keep h.g0, app_keep h.g1, app_keep h.g2, app_keep h.g3⟩
theorem drop_cons {α : Type} {l : List α} {i : Nat} {x : α} (h : l[i]? = some x) : l.drop i = x :: l.drop (i + 1) := by
 have hi := lt_of_getElem? h
 rw [List.drop_eq_getElem_cons hi]
 rw [List.getElem?_eq_getElem hi] at h
 rw [Option.some.inj h]
theorem item16 (n m : Nat) (hn : m + 6 ≤ n) {a b : List S44} {x y : S44} {p : Nat} {G : List AObj} (hI : InvI a b x y p G) {la i lx : Int} {k : Nat} {u v : S46} (hu : x.fItems[k]? = some u) (hv : y.fItems[k]? = some v) {res : Bool} (he : itEq m u v = some res) {Q : Post}
  (hQ1 : res = false → ∀ σ, Fin16 false σ → Q .ret σ) (hQ2 : res = true → ∀ G' σ, InvI a b x y p G' → Abs.forget KI σ = SI la i p lx (k : Int) G' → Q .normal σ) :
  Ht False Tryz.prog IK (SI la i p lx (k : Int) G) Q := by
 have hxn := hxW n
 have hiu : idx x.fItems (k : Int) = some u := by simp [idx, hu]
 have hiv : idx y.fItems (k : Int) = some v := by simp [idx, hv]
 have g2 := hI.g2
 have g3 := hI.g3
 refine Ht.sq (Ht.rg hxn (Ops.sg 2 2 (Ops.dn (seqH.n (Ht.sq (Ht.regionTwo hxn 10 47 47 9 10 58 63 4 9 ti47 ti47 (by kernel_rfl) rfl rfl (by kernel_rfl) (.v (e46 u)) (.v (e46 v)) (OpsU.seg' 1 1 (by kernel_rfl) ?_)))))))
 refine OpsU.one' 2 (fun h0 e0 => ldc (i := ti43) (h := h0) (r := p) (off := 0 + 1) (cs := [.v (.str x.fName), .v (vP e46 x.fItems)]) (d := .v (vP e46 x.fItems)) (hq_of (g := G) (e0.trans (by kernel_rfl)) g2) rfl) (by kernel_rfl) (by kernel_rfl) ?_
 refine OpsU.seg' 1 3 (by kernel_rfl) ?_
 refine OpsU.one' 4 (fun h0 e0 => ix_r (T := T) h0 43 47 5 .plain e46 x.fItems (k : Int) u hiu (by kernel_rfl) (by kernel_rfl) (fun _ => rfl)) (by kernel_rfl) (by kernel_rfl) ?_
 refine OpsU.seg' 2 6 (by kernel_rfl) ?_
 refine OpsU.one' 7 (fun h0 e0 => ldc (i := ti43) (h := h0) (r := p + 1) (off := 0 + 1) (cs := [.v (.str y.fName), .v (vP e46 y.fItems)]) (d := .v (vP e46 y.fItems)) (hq_of (g := G) (e0.trans (by kernel_rfl)) g3) rfl) (by kernel_rfl) (by kernel_rfl) ?_
 refine OpsU.seg' 1 8 (by kernel_rfl) ?_
 refine OpsU.one' 9 (fun h0 e0 => ix_r (T := T) h0 43 47 5 .plain e46 y.fItems (k : Int) v hiv (by kernel_rfl) (by kernel_rfl) (fun _ => rfl)) (by kernel_rfl) (by kernel_rfl) ?_
 refine OpsU.seg' 1 10 (by kernel_rfl) ?_
 refine OpsU.done ⟨⟨by kernel_rfl, by kernel_rfl⟩, by kernel_rfl, ?_⟩
 refine seqH.n ?_
 refine Ht.forget [2, 3, 4, 6, 7, 9, 10, 20, 21, 50, 51] (Ht.st (σ' := Sm 100 [(2, .ptr 0 0), (3, .ptr 1 0), (4, .v (.bool false)), (6, .ptr p 0), (7, .ptr (p + 1) 0), (9, .ptr G.length 0), (10, .ptr (G.length + 1) 0), (20, dI la), (21, dI i), (50, dI lx), (51, dI (k : Int))] (G ++ [yC u, yC v])) (by kernel_rfl) ?_)
 have hK := hI.app [yC u, yC v]
 have z2 : (G ++ [yC u, yC v])[G.length]? = some (yC u) := mid_get _ _ _
 have z3 : (G ++ [yC u, yC v])[G.length + 1]? = some (yC v) := by
  have := mid_get (G ++ [yC u]) (yC v) []
  simpa using this
 generalize G ++ [yC u, yC v] = K at hK z2 z3 ⊢
 generalize G.length = q at z2 z3 ⊢
 unfold itEq at he
 refine Ht.sq ?_
 cases hfBase : (!(u.fBase.toList == v.fBase.toList)) with
 | true =>
  rw [if_neg (fun hh => by rw [hh.1] at hfBase; exact absurd hfBase (by simp))] at he
  cases he
  refine Ht.rg hxn (Ops.sg 1 1 ?_)
  refine Ops.on 2 (fun h0 e0 => ldc (i := ti9) (h := h0) (r := q) (off := 0 + 0) (cs := [.v (.str u.fBase), .v (.str u.fForm), .v (vP eS u.fTags), dI u.fNext, dI u.fWeight]) (d := .v (.str u.fBase)) (hq_of (g := K) (e0.trans (by kernel_rfl)) z2) rfl) ?_
  refine Ops.sg 1 3 ?_
  refine Ops.on 4 (fun h0 e0 => ldc (i := ti9) (h := h0) (r := q + 1) (off := 0 + 0) (cs := [.v (.str v.fBase), .v (.str v.fForm), .v (vP eS v.fTags), dI v.fNext, dI v.fWeight]) (d := .v (.str v.fBase)) (hq_of (g := K) (e0.trans (by kernel_rfl)) z3) rfl) ?_
  refine Ops.on 5 (fun h0 e0 => bsub (x := (!(u.fBase.toList == v.fBase.toList))) (b := true) hfBase h0) ?_
  refine Ops.sg 29 34 (Ops.dn (seqH.n ?_))
  refine Ht.cond true (by kernel_rfl) (by kernel_rfl) (fun _ => ?_) (fun hc => nomatch hc)
  refine Ht.sq (Ht.rg hxn (Ops.sg 1 1 (Ops.dn (seqH.n (Ht.rt ?_)))))
  exact hQ1 rfl _ (finB (by kernel_rfl))
 | false =>
  cases hfForm : (!(u.fForm.toList == v.fForm.toList)) with
  | true =>
   rw [if_neg (fun hh => by rw [hh.2.1] at hfForm; exact absurd hfForm (by simp))] at he
   cases he
   refine Ht.rg hxn (Ops.sg 1 1 ?_)
   refine Ops.on 2 (fun h0 e0 => ldc (i := ti9) (h := h0) (r := q) (off := 0 + 0) (cs := [.v (.str u.fBase), .v (.str u.fForm), .v (vP eS u.fTags), dI u.fNext, dI u.fWeight]) (d := .v (.str u.fBase)) (hq_of (g := K) (e0.trans (by kernel_rfl)) z2) rfl) ?_
   refine Ops.sg 1 3 ?_
   refine Ops.on 4 (fun h0 e0 => ldc (i := ti9) (h := h0) (r := q + 1) (off := 0 + 0) (cs := [.v (.str v.fBase), .v (.str v.fForm), .v (vP eS v.fTags), dI v.fNext, dI v.fWeight]) (d := .v (.str v.fBase)) (hq_of (g := K) (e0.trans (by kernel_rfl)) z3) rfl) ?_
   refine Ops.on 5 (fun h0 e0 => bsub (x := (!(u.fBase.toList == v.fBase.toList))) (b := false) hfBase h0) ?_
   refine Ops.sg 2 7 ?_
   refine Ops.on 8 (fun h0 e0 => ldc (i := ti9) (h := h0) (r := q) (off := 0 + 1) (cs := [.v (.str u.fBase), .v (.str u.fForm), .v (vP eS u.fTags), dI u.fNext, dI u.fWeight]) (d := .v (.str u.fForm)) (hq_of (g := K) (e0.trans (by kernel_rfl)) z2) rfl) ?_
   refine Ops.sg 1 9 ?_
   refine Ops.on 10 (fun h0 e0 => ldc (i := ti9) (h := h0) (r := q + 1) (off := 0 + 1) (cs := [.v (.str v.fBase), .v (.str v.fForm), .v (vP eS v.fTags), dI v.fNext, dI v.fWeight]) (d := .v (.str v.fForm)) (hq_of (g := K) (e0.trans (by kernel_rfl)) z3) rfl) ?_
   refine Ops.on 11 (fun h0 e0 => bsub (x := (!(u.fForm.toList == v.fForm.toList))) (b := true) hfForm h0) ?_
   refine Ops.sg 23 34 (Ops.dn (seqH.n ?_))
   refine Ht.cond true (by kernel_rfl) (by kernel_rfl) (fun _ => ?_) (fun hc => nomatch hc)
   refine Ht.sq (Ht.rg hxn (Ops.sg 1 1 (Ops.dn (seqH.n (Ht.rt ?_)))))
   exact hQ1 rfl _ (finB (by kernel_rfl))
  | false =>
   cases hfNext : (u.fNext != v.fNext) with
   | true =>
    rw [if_neg (fun hh => by rw [hh.2.2.1] at hfNext; exact absurd hfNext (by simp))] at he
    cases he
    refine Ht.rg hxn (Ops.sg 1 1 ?_)
    refine Ops.on 2 (fun h0 e0 => ldc (i := ti9) (h := h0) (r := q) (off := 0 + 0) (cs := [.v (.str u.fBase), .v (.str u.fForm), .v (vP eS u.fTags), dI u.fNext, dI u.fWeight]) (d := .v (.str u.fBase)) (hq_of (g := K) (e0.trans (by kernel_rfl)) z2) rfl) ?_
    refine Ops.sg 1 3 ?_
    refine Ops.on 4 (fun h0 e0 => ldc (i := ti9) (h := h0) (r := q + 1) (off := 0 + 0) (cs := [.v (.str v.fBase), .v (.str v.fForm), .v (vP eS v.fTags), dI v.fNext, dI v.fWeight]) (d := .v (.str v.fBase)) (hq_of (g := K) (e0.trans (by kernel_rfl)) z3) rfl) ?_
    refine Ops.on 5 (fun h0 e0 => bsub (x := (!(u.fBase.toList == v.fBase.toList))) (b := false) hfBase h0) ?_
    refine Ops.sg 2 7 ?_
    refine Ops.on 8 (fun h0 e0 => ldc (i := ti9) (h := h0) (r := q) (off := 0 + 1) (cs := [.v (.str u.fBase), .v (.str u.fForm), .v (vP eS u.fTags), dI u.fNext, dI u.fWeight]) (d := .v (.str u.fForm)) (hq_of (g := K) (e0.trans (by kernel_rfl)) z2) rfl) ?_
    refine Ops.sg 1 9 ?_
    refine Ops.on 10 (fun h0 e0 => ldc (i := ti9) (h := h0) (r := q + 1) (off := 0 + 1) (cs := [.v (.str v.fBase), .v (.str v.fForm), .v (vP eS v.fTags), dI v.fNext, dI v.fWeight]) (d := .v (.str v.fForm)) (hq_of (g := K) (e0.trans (by kernel_rfl)) z3) rfl) ?_
    refine Ops.on 11 (fun h0 e0 => bsub (x := (!(u.fForm.toList == v.fForm.toList))) (b := false) hfForm h0) ?_
    refine Ops.sg 3 14 ?_
    refine Ops.on 15 (fun h0 e0 => ldc (i := ti3) (h := h0) (r := q) (off := 0 + 3) (cs := [.v (.str u.fBase), .v (.str u.fForm), .v (vP eS u.fTags), dI u.fNext, dI u.fWeight]) (d := dI u.fNext) (hq_of (g := K) (e0.trans (by kernel_rfl)) z2) rfl) ?_
    refine Ops.sg 1 16 ?_
    refine Ops.on 17 (fun h0 e0 => ldc (i := ti3) (h := h0) (r := q + 1) (off := 0 + 3) (cs := [.v (.str v.fBase), .v (.str v.fForm), .v (vP eS v.fTags), dI v.fNext, dI v.fWeight]) (d := dI v.fNext) (hq_of (g := K) (e0.trans (by kernel_rfl)) z3) rfl) ?_
    refine Ops.on 18 (fun h0 e0 => bsub (x := (u.fNext != v.fNext)) (b := true) hfNext h0) ?_
    refine Ops.sg 16 34 (Ops.dn (seqH.n ?_))
    refine Ht.cond true (by kernel_rfl) (by kernel_rfl) (fun _ => ?_) (fun hc => nomatch hc)
    refine Ht.sq (Ht.rg hxn (Ops.sg 1 1 (Ops.dn (seqH.n (Ht.rt ?_)))))
    exact hQ1 rfl _ (finB (by kernel_rfl))
   | false =>
    cases hfWeight : (u.fWeight != v.fWeight) with
    | true =>
     rw [if_neg (fun hh => by rw [hh.2.2.2] at hfWeight; exact absurd hfWeight (by simp))] at he
     cases he
     refine Ht.rg hxn (Ops.sg 1 1 ?_)
     refine Ops.on 2 (fun h0 e0 => ldc (i := ti9) (h := h0) (r := q) (off := 0 + 0) (cs := [.v (.str u.fBase), .v (.str u.fForm), .v (vP eS u.fTags), dI u.fNext, dI u.fWeight]) (d := .v (.str u.fBase)) (hq_of (g := K) (e0.trans (by kernel_rfl)) z2) rfl) ?_
     refine Ops.sg 1 3 ?_
     refine Ops.on 4 (fun h0 e0 => ldc (i := ti9) (h := h0) (r := q + 1) (off := 0 + 0) (cs := [.v (.str v.fBase), .v (.str v.fForm), .v (vP eS v.fTags), dI v.fNext, dI v.fWeight]) (d := .v (.str v.fBase)) (hq_of (g := K) (e0.trans (by kernel_rfl)) z3) rfl) ?_
     refine Ops.on 5 (fun h0 e0 => bsub (x := (!(u.fBase.toList == v.fBase.toList))) (b := false) hfBase h0) ?_
     refine Ops.sg 2 7 ?_
     refine Ops.on 8 (fun h0 e0 => ldc (i := ti9) (h := h0) (r := q) (off := 0 + 1) (cs := [.v (.str u.fBase), .v (.str u.fForm), .v (vP eS u.fTags), dI u.fNext, dI u.fWeight]) (d := .v (.str u.fForm)) (hq_of (g := K) (e0.trans (by kernel_rfl)) z2) rfl) ?_
     refine Ops.sg 1 9 ?_
     refine Ops.on 10 (fun h0 e0 => ldc (i := ti9) (h := h0) (r := q + 1) (off := 0 + 1) (cs := [.v (.str v.fBase), .v (.str v.fForm), .v (vP eS v.fTags), dI v.fNext, dI v.fWeight]) (d := .v (.str v.fForm)) (hq_of (g := K) (e0.trans (by kernel_rfl)) z3) rfl) ?_
     refine Ops.on 11 (fun h0 e0 => bsub (x := (!(u.fForm.toList == v.fForm.toList))) (b := false) hfForm h0) ?_
     refine Ops.sg 3 14 ?_
     refine Ops.on 15 (fun h0 e0 => ldc (i := ti3) (h := h0) (r := q) (off := 0 + 3) (cs := [.v (.str u.fBase), .v (.str u.fForm), .v (vP eS u.fTags), dI u.fNext, dI u.fWeight]) (d := dI u.fNext) (hq_of (g := K) (e0.trans (by kernel_rfl)) z2) rfl) ?_
     refine Ops.sg 1 16 ?_
     refine Ops.on 17 (fun h0 e0 => ldc (i := ti3) (h := h0) (r := q + 1) (off := 0 + 3) (cs := [.v (.str v.fBase), .v (.str v.fForm), .v (vP eS v.fTags), dI v.fNext, dI v.fWeight]) (d := dI v.fNext) (hq_of (g := K) (e0.trans (by kernel_rfl)) z3) rfl) ?_
     refine Ops.on 18 (fun h0 e0 => bsub (x := (u.fNext != v.fNext)) (b := false) hfNext h0) ?_
     refine Ops.sg 3 21 ?_
     refine Ops.on 22 (fun h0 e0 => ldc (i := ti3) (h := h0) (r := q) (off := 0 + 4) (cs := [.v (.str u.fBase), .v (.str u.fForm), .v (vP eS u.fTags), dI u.fNext, dI u.fWeight]) (d := dI u.fWeight) (hq_of (g := K) (e0.trans (by kernel_rfl)) z2) rfl) ?_
     refine Ops.sg 1 23 ?_
     refine Ops.on 24 (fun h0 e0 => ldc (i := ti3) (h := h0) (r := q + 1) (off := 0 + 4) (cs := [.v (.str v.fBase), .v (.str v.fForm), .v (vP eS v.fTags), dI v.fNext, dI v.fWeight]) (d := dI v.fWeight) (hq_of (g := K) (e0.trans (by kernel_rfl)) z3) rfl) ?_
     refine Ops.on 25 (fun h0 e0 => bsub (x := (u.fWeight != v.fWeight)) (b := true) hfWeight h0) ?_
     refine Ops.sg 9 34 (Ops.dn (seqH.n ?_))
     refine Ht.cond true (by kernel_rfl) (by kernel_rfl) (fun _ => ?_) (fun hc => nomatch hc)
     refine Ht.sq (Ht.rg hxn (Ops.sg 1 1 (Ops.dn (seqH.n (Ht.rt ?_)))))
     exact hQ1 rfl _ (finB (by kernel_rfl))
    | false =>
     rw [if_pos ⟨by simpa using hfBase, by simpa using hfForm, by simpa using hfNext, by simpa using hfWeight⟩] at he
     refine Ht.rg hxn (Ops.sg 1 1 ?_)
     refine Ops.on 2 (fun h0 e0 => ldc (i := ti9) (h := h0) (r := q) (off := 0 + 0) (cs := [.v (.str u.fBase), .v (.str u.fForm), .v (vP eS u.fTags), dI u.fNext, dI u.fWeight]) (d := .v (.str u.fBase)) (hq_of (g := K) (e0.trans (by kernel_rfl)) z2) rfl) ?_
     refine Ops.sg 1 3 ?_
     refine Ops.on 4 (fun h0 e0 => ldc (i := ti9) (h := h0) (r := q + 1) (off := 0 + 0) (cs := [.v (.str v.fBase), .v (.str v.fForm), .v (vP eS v.fTags), dI v.fNext, dI v.fWeight]) (d := .v (.str v.fBase)) (hq_of (g := K) (e0.trans (by kernel_rfl)) z3) rfl) ?_
     refine Ops.on 5 (fun h0 e0 => bsub (x := (!(u.fBase.toList == v.fBase.toList))) (b := false) hfBase h0) ?_
     refine Ops.sg 2 7 ?_
     refine Ops.on 8 (fun h0 e0 => ldc (i := ti9) (h := h0) (r := q) (off := 0 + 1) (cs := [.v (.str u.fBase), .v (.str u.fForm), .v (vP eS u.fTags), dI u.fNext, dI u.fWeight]) (d := .v (.str u.fForm)) (hq_of (g := K) (e0.trans (by kernel_rfl)) z2) rfl) ?_
     refine Ops.sg 1 9 ?_
     refine Ops.on 10 (fun h0 e0 => ldc (i := ti9) (h := h0) (r := q + 1) (off := 0 + 1) (cs := [.v (.str v.fBase), .v (.str v.fForm), .v (vP eS v.fTags), dI v.fNext, dI v.fWeight]) (d := .v (.str v.fForm)) (hq_of (g := K) (e0.trans (by kernel_rfl)) z3) rfl) ?_
     refine Ops.on 11 (fun h0 e0 => bsub (x := (!(u.fForm.toList == v.fForm.toList))) (b := false) hfForm h0) ?_
     refine Ops.sg 3 14 ?_
     refine Ops.on 15 (fun h0 e0 => ldc (i := ti3) (h := h0) (r := q) (off := 0 + 3) (cs := [.v (.str u.fBase), .v (.str u.fForm), .v (vP eS u.fTags), dI u.fNext, dI u.fWeight]) (d := dI u.fNext) (hq_of (g := K) (e0.trans (by kernel_rfl)) z2) rfl) ?_
     refine Ops.sg 1 16 ?_
     refine Ops.on 17 (fun h0 e0 => ldc (i := ti3) (h := h0) (r := q + 1) (off := 0 + 3) (cs := [.v (.str v.fBase), .v (.str v.fForm), .v (vP eS v.fTags), dI v.fNext, dI v.fWeight]) (d := dI v.fNext) (hq_of (g := K) (e0.trans (by kernel_rfl)) z3) rfl) ?_
     refine Ops.on 18 (fun h0 e0 => bsub (x := (u.fNext != v.fNext)) (b := false) hfNext h0) ?_
     refine Ops.sg 3 21 ?_
     refine Ops.on 22 (fun h0 e0 => ldc (i := ti3) (h := h0) (r := q) (off := 0 + 4) (cs := [.v (.str u.fBase), .v (.str u.fForm), .v (vP eS u.fTags), dI u.fNext, dI u.fWeight]) (d := dI u.fWeight) (hq_of (g := K) (e0.trans (by kernel_rfl)) z2) rfl) ?_
     refine Ops.sg 1 23 ?_
     refine Ops.on 24 (fun h0 e0 => ldc (i := ti3) (h := h0) (r := q + 1) (off := 0 + 4) (cs := [.v (.str v.fBase), .v (.str v.fForm), .v (vP eS v.fTags), dI v.fNext, dI v.fWeight]) (d := dI v.fWeight) (hq_of (g := K) (e0.trans (by kernel_rfl)) z3) rfl) ?_
     refine Ops.on 25 (fun h0 e0 => bsub (x := (u.fWeight != v.fWeight)) (b := false) hfWeight h0) ?_
     refine Ops.sg 3 28 ?_
     refine Ops.on 29 (fun h0 e0 => ldc (i := ti29) (h := h0) (r := q) (off := 0 + 2) (cs := [.v (.str u.fBase), .v (.str u.fForm), .v (vP eS u.fTags), dI u.fNext, dI u.fWeight]) (d := .v (vP eS u.fTags)) (hq_of (g := K) (e0.trans (by kernel_rfl)) z2) rfl) ?_
     refine Ops.sg 1 30 ?_
     refine Ops.on 31 (fun h0 e0 => ldc (i := ti29) (h := h0) (r := q + 1) (off := 0 + 2) (cs := [.v (.str v.fBase), .v (.str v.fForm), .v (vP eS v.fTags), dI v.fNext, dI v.fWeight]) (d := .v (vP eS v.fTags)) (hq_of (g := K) (e0.trans (by kernel_rfl)) z3) rfl) ?_
     refine Ops.on 32 (fun h0 e0 => call_ok (E' := E) (h := h0) (by kernel_rfl) (Args.v (vP eS u.fTags) (eL eS u.fTags) (by kernel_rfl) (Args.v (vP eS v.fTags) (eL eS v.fTags) (by kernel_rfl) Args.nil)) (ok12 m u.fTags v.fTags res he n (by omega))) ?_
     refine Ops.sg 2 34 (Ops.dn (seqH.n ?_))
     cases res with
     | false =>
      refine Ht.cond true (by kernel_rfl) (by kernel_rfl) (fun _ => ?_) (fun hc => nomatch hc)
      refine Ht.sq (Ht.rg hxn (Ops.sg 1 1 (Ops.dn (seqH.n (Ht.rt ?_)))))
      exact hQ1 rfl _ (finB (by kernel_rfl))
     | true =>
      refine Ht.cond false (by kernel_rfl) (by kernel_rfl) (fun hc => nomatch hc) (fun _ => ?_)
      refine Ht.sk ?_
      exact hQ2 rfl K _ hK (by kernel_rfl)
def LI16 (m : Nat) (a b : List S44) (x y : S44) (p : Nat) (la i : Int) (goal : Bool) : Nat → St → Prop := fun z σ => ∃ (k : Nat) (G : List AObj), z = x.fItems.length - k ∧ k ≤ x.fItems.length ∧ itsEq m (x.fItems.drop k) (y.fItems.drop k) = some goal ∧ InvI a b x y p G ∧ Abs.forget KI σ = SI la i p (x.fItems.length : Int) (k : Int) G
theorem items16 (n m : Nat) (hn : m + 6 ≤ n) {a b : List S44} {x y : S44} {p : Nat} {G : List AObj} (hI : InvI a b x y p G) {la i : Int} (hl : x.fItems.length = y.fItems.length) (hlm : x.fItems.length ≤ 1000000) {goal : Bool} (hg : itsEq m x.fItems y.fItems = some goal) {Q : Post}
  (hQ1 : goal = false → ∀ σ, Fin16 false σ → Q .ret σ) (hQ2 : goal = true → ∀ G' σ, InvI a b x y p G' → Abs.forget [2, 3, 4, 20, 21] σ = Sm 100 [(2, .ptr 0 0), (3, .ptr 1 0), (4, .v (.bool false)), (20, dI la), (21, dI i)] G' → Q (.exit 2) σ) :
  Ht False Tryz.prog IL (SI la i p (x.fItems.length : Int) 0 G) Q := by
 have hxn := hxW n
 refine Ht.loop (LI16 m a b x y p la i goal) x.fItems.length (by kernel_rfl) ⟨0, G, rfl, Nat.zero_le _, hg, hI, by kernel_rfl⟩ ?_
 clear hI hg G
 rintro z σ ⟨k, G, rfl, hk, hg, hI, hσ⟩
 refine Ht.forget KI (Ht.st hσ ?_)
 clear hσ
 refine Ht.sq (Ht.rg hxn (Ops.sg 1 1 (Ops.dn (seqH.n (Ht.sq ?_)))))
 refine Ht.cond (decide ((k : Int) < (x.fItems.length : Int))) (by kernel_rfl) (by kernel_rfl) (fun hc => ?_) (fun hc => ?_)
 case refine_2 =>
  have hc := of_decide_eq_false hc
  rw [List.drop_eq_nil_of_le (by omega)] at hg
  have hg : some true = some goal := hg
  refine Ht.exit (id := 2) (by kernel_rfl) ?_
  exact hQ2 (Option.some.inj hg).symm G _ hI (by kernel_rfl)
 have hc := of_decide_eq_true hc
 have hk : k < x.fItems.length := by omega
 obtain ⟨u, hu⟩ : ∃ u, x.fItems[k]? = some u := ⟨_, List.getElem?_eq_getElem hk⟩
 obtain ⟨v, hv⟩ : ∃ v, y.fItems[k]? = some v := ⟨_, List.getElem?_eq_getElem (by omega)⟩
 rw [drop_cons hu, drop_cons hv] at hg
 have hw : w64 ((k : Int) + 1) = ((k + 1 : Nat) : Int) := by rw [w64_id ⟨by omega, by omega⟩]; omega
 have hg : (match itEq m u v with
  | some true => itsEq m (x.fItems.drop (k + 1)) (y.fItems.drop (k + 1))
  | o => o) = some goal := hg
 obtain ⟨res, he⟩ : ∃ res, itEq m u v = some res := by
  cases h : itEq m u v with
  | none => rw [h] at hg; cases hg
  | some r => exact ⟨r, rfl⟩
 rw [he] at hg
 refine Ht.sk (seqH.n (Ht.sq (Ht.bk 3 ?_)))
 refine Ht.forget KI (Ht.st (σ' := SI la i p (x.fItems.length : Int) (k : Int) G) (by kernel_rfl) ?_)
 refine item16 n m hn hI hu hv he (fun hr σ hσ => ?_) (fun hr G' σ hI' hσ => ?_)
 ·subst hr
  have hg : some false = some goal := hg
  exact hQ1 (Option.some.inj hg).symm σ hσ
 ·subst hr
  refine blkH.n (seqH.n ?_)
  refine Ht.forget KI (Ht.st hσ (Ht.rg hxn (Ops.sg 2 2 (Ops.dn ?_))))
  exact ⟨x.fItems.length - (k + 1), by omega, k + 1, G', rfl, hk, hg, hI', (show Abs.forget KI _ = SI la i p (x.fItems.length : Int) (w64 ((k : Int) + 1)) G' by kernel_rfl).trans (by rw [hw])⟩
abbrev KO : List Nat := [2, 3, 4, 20, 21]
abbrev SO (la i : Int) (G : List AObj) : St := Sm 100 [(2, .ptr 0 0), (3, .ptr 1 0), (4, .v (.bool false)), (20, dI la), (21, dI i)] G
structure InvO (a b : List S44) (G : List AObj) : Prop where
 g0 : G[0]? = some (yL a)
 g1 : G[1]? = some (yL b)
theorem class16 (n m : Nat) (hn : m + 6 ≤ n) {a b : List S44} {G : List AObj} (hI : InvO a b G) {la : Int} {k : Nat} {x y : S44} (hx : a[k]? = some x) (hy : b[k]? = some y) {res : Bool} (he : clEq m x y = some res) {Q : Post}
  (hQ1 : res = false → ∀ σ, Fin16 false σ → Q .ret σ) (hQ2 : res = true → ∀ G' σ, InvO a b G' → Abs.forget KO σ = SO la (k : Int) G' → Q .normal σ) :
  Ht False Tryz.prog BK (SO la (k : Int) G) Q := by
 have hxn := hxW n
 have hiu : idx a (k : Int) = some x := by simp [idx, hx]
 have hiv : idx b (k : Int) = some y := by simp [idx, hy]
 have g0 := hI.g0
 have g1 := hI.g1
 refine Ht.sq (Ht.rg hxn (Ops.sg 2 2 (Ops.dn (seqH.n (Ht.sq (Ht.regionTwo hxn 10 45 45 6 7 28 33 4 9 ti45 ti45 (by kernel_rfl) rfl rfl (by kernel_rfl) (.v (e44 x)) (.v (e44 y)) (OpsU.seg' 1 1 (by kernel_rfl) ?_)))))))
 refine OpsU.one' 2 (fun h0 e0 => ldc (i := ti22) (h := h0) (r := 0) (off := 0 + 0) (cs := [.v (vP e44 a)]) (d := .v (vP e44 a)) (hq_of (g := G) (e0.trans (by kernel_rfl)) g0) rfl) (by kernel_rfl) (by kernel_rfl) ?_
 refine OpsU.seg' 1 3 (by kernel_rfl) ?_
 refine OpsU.one' 4 (fun h0 e0 => ix_r (T := T) h0 22 45 2 .plain e44 a (k : Int) x hiu (by kernel_rfl) (by kernel_rfl) (fun _ => rfl)) (by kernel_rfl) (by kernel_rfl) ?_
 refine OpsU.seg' 2 6 (by kernel_rfl) ?_
 refine OpsU.one' 7 (fun h0 e0 => ldc (i := ti22) (h := h0) (r := 1) (off := 0 + 0) (cs := [.v (vP e44 b)]) (d := .v (vP e44 b)) (hq_of (g := G) (e0.trans (by kernel_rfl)) g1) rfl) (by kernel_rfl) (by kernel_rfl) ?_
 refine OpsU.seg' 1 8 (by kernel_rfl) ?_
 refine OpsU.one' 9 (fun h0 e0 => ix_r (T := T) h0 22 45 2 .plain e44 b (k : Int) y hiv (by kernel_rfl) (by kernel_rfl) (fun _ => rfl)) (by kernel_rfl) (by kernel_rfl) ?_
 refine OpsU.seg' 1 10 (by kernel_rfl) ?_
 refine OpsU.done ⟨⟨by kernel_rfl, by kernel_rfl⟩, by kernel_rfl, ?_⟩
 refine seqH.n ?_
 refine Ht.forget [2, 3, 4, 6, 7, 20, 21] (Ht.st (σ' := Sm 100 [(2, .ptr 0 0), (3, .ptr 1 0), (4, .v (.bool false)), (6, .ptr G.length 0), (7, .ptr (G.length + 1) 0), (20, dI la), (21, dI (k : Int))] (G ++ [yX x, yX y])) (by kernel_rfl) ?_)
 have z0 : (G ++ [yX x, yX y])[0]? = some (yL a) := app_keep g0
 have z1 : (G ++ [yX x, yX y])[1]? = some (yL b) := app_keep g1
 have z2 : (G ++ [yX x, yX y])[G.length]? = some (yX x) := mid_get _ _ _
 have z3 : (G ++ [yX x, yX y])[G.length + 1]? = some (yX y) := by
  have := mid_get (G ++ [yX x]) (yX y) []
  simpa using this
 generalize G ++ [yX x, yX y] = K at z0 z1 z2 z3 ⊢
 generalize G.length = q at z2 z3 ⊢
 unfold clEq at he
 have hlx : (x.fItems.map e46).length = x.fItems.length := List.length_map _
 have hly : (y.fItems.map e46).length = y.fItems.length := List.length_map _
 refine Ht.sq (Ht.sq ?_)
 cases hN : (!(x.fName.toList == y.fName.toList)) with
 | true =>
  rw [if_neg (fun hh => by rw [hh.1] at hN; exact absurd hN (by simp))] at he
  cases he
  refine Ht.rg hxn (Ops.sg 1 1 ?_)
  refine Ops.on 2 (fun h0 e0 => ldc (i := ti9) (h := h0) (r := q) (off := 0 + 0) (cs := [.v (.str x.fName), .v (vP e46 x.fItems)]) (d := .v (.str x.fName)) (hq_of (g := K) (e0.trans (by kernel_rfl)) z2) rfl) ?_
  refine Ops.sg 1 3 ?_
  refine Ops.on 4 (fun h0 e0 => ldc (i := ti9) (h := h0) (r := q + 1) (off := 0 + 0) (cs := [.v (.str y.fName), .v (vP e46 y.fItems)]) (d := .v (.str y.fName)) (hq_of (g := K) (e0.trans (by kernel_rfl)) z3) rfl) ?_
  refine Ops.on 5 (fun h0 e0 => bsub (x := (!(x.fName.toList == y.fName.toList))) (b := true) hN h0) ?_
  refine Ops.sg 9 14 (Ops.dn (seqH.n ?_))
  refine Ht.cond true (by kernel_rfl) (by kernel_rfl) (fun _ => ?_) (fun hc => nomatch hc)
  refine Ht.sq (Ht.rg hxn (Ops.sg 1 1 (Ops.dn (seqH.n (Ht.rt ?_)))))
  exact hQ1 rfl _ (finB (by kernel_rfl))
 | false =>
  refine Ht.rg hxn (Ops.sg 1 1 ?_)
  refine Ops.on 2 (fun h0 e0 => ldc (i := ti9) (h := h0) (r := q) (off := 0 + 0) (cs := [.v (.str x.fName), .v (vP e46 x.fItems)]) (d := .v (.str x.fName)) (hq_of (g := K) (e0.trans (by kernel_rfl)) z2) rfl) ?_
  refine Ops.sg 1 3 ?_
  refine Ops.on 4 (fun h0 e0 => ldc (i := ti9) (h := h0) (r := q + 1) (off := 0 + 0) (cs := [.v (.str y.fName), .v (vP e46 y.fItems)]) (d := .v (.str y.fName)) (hq_of (g := K) (e0.trans (by kernel_rfl)) z3) rfl) ?_
  refine Ops.on 5 (fun h0 e0 => bsub (x := (!(x.fName.toList == y.fName.toList))) (b := false) hN h0) ?_
  refine Ops.sg 2 7 ?_
  refine Ops.on 8 (fun h0 e0 => ldc (i := ti43) (h := h0) (r := q) (off := 0 + 1) (cs := [.v (.str x.fName), .v (vP e46 x.fItems)]) (d := .v (vP e46 x.fItems)) (hq_of (g := K) (e0.trans (by kernel_rfl)) z2) rfl) ?_
  refine Ops.sg 2 10 ?_
  refine Ops.on 11 (fun h0 e0 => ldc (i := ti43) (h := h0) (r := q + 1) (off := 0 + 1) (cs := [.v (.str y.fName), .v (vP e46 y.fItems)]) (d := .v (vP e46 y.fItems)) (hq_of (g := K) (e0.trans (by kernel_rfl)) z3) rfl) ?_
  refine Ops.sg 3 14 (Ops.dn (seqH.n ?_))
  refine Ht.cond (((x.fItems.map e46).length : Int) != ((y.fItems.map e46).length : Int)) (by kernel_rfl) (by kernel_rfl) (fun hc => ?_) (fun hc => ?_)
  ·have hc : ¬ ((x.fItems.map e46).length : Int) = ((y.fItems.map e46).length : Int) := by simpa using hc
   rw [hlx, hly] at hc
   rw [if_neg (fun hh => hc (by rw [hh.2]))] at he
   cases he
   refine Ht.sq (Ht.rg hxn (Ops.sg 1 1 (Ops.dn (seqH.n (Ht.rt ?_)))))
   exact hQ1 rfl _ (finB (by kernel_rfl))
  ·have hc : ((x.fItems.map e46).length : Int) = ((y.fItems.map e46).length : Int) := by simpa using hc
   rw [hlx, hly] at hc
   have hl : x.fItems.length = y.fItems.length := by omega
   rw [if_pos ⟨by simpa using hN, hl⟩] at he
   split at he
   case isFalse => cases he
   rename_i hlm
   refine Ht.sk (seqH.n ?_)
   refine Ht.forget [2, 3, 4, 6, 7, 20, 21] (Ht.st (σ' := Sm 100 [(2, .ptr 0 0), (3, .ptr 1 0), (4, .v (.bool false)), (6, .ptr q 0), (7, .ptr (q + 1) 0), (20, dI la), (21, dI (k : Int))] K) (by kernel_rfl) (Ht.sq (Ht.rg hxn (Ops.sg 1 1 ?_))))
   refine Ops.on 2 (fun h0 e0 => ldc (i := ti43) (h := h0) (r := q) (off := 0 + 1) (cs := [.v (.str x.fName), .v (vP e46 x.fItems)]) (d := .v (vP e46 x.fItems)) (hq_of (g := K) (e0.trans (by kernel_rfl)) z2) rfl) ?_
   refine Ops.sg 2 4 (Ops.dn (seqH.n (Ht.bk 2 ?_)))
   refine Ht.forget KI (Ht.st (σ' := SI la (k : Int) q ((x.fItems.map e46).length : Int) 0 K) (by kernel_rfl) ?_)
   rw [hlx]
   refine items16 n m hn (a := a) (b := b) ⟨z0, z1, z2, z3⟩ hl hlm he (fun hr σ hσ => hQ1 hr σ hσ) (fun hr G' σ hI' hσ => ?_)
   refine blkH.x ?_
   exact hQ2 hr G' σ ⟨hI'.g0, hI'.g1⟩ hσ
def LO16 (m : Nat) (a b : List S44) (goal : Bool) : Nat → St → Prop := fun z σ => ∃ (k : Nat) (G : List AObj), z = a.length - k ∧ k ≤ a.length ∧ clsEq m (a.drop k) (b.drop k) = some goal ∧ InvO a b G ∧ Abs.forget KO σ = SO (a.length : Int) (k : Int) G
theorem classes16 (n m : Nat) (hn : m + 6 ≤ n) {a b : List S44} {G : List AObj} (hI : InvO a b G) (hl : a.length = b.length) (hlm : a.length ≤ 1000000) {goal : Bool} (hg : clsEq m a b = some goal) {Q : Post}
  (hQ1 : goal = false → ∀ σ, Fin16 false σ → Q .ret σ) (hQ2 : goal = true → ∀ G' σ, Abs.forget [2] σ = Sm 100 [(2, .ptr 0 0)] G' → Q (.exit 0) σ) : Ht False Tryz.prog OL (SO (a.length : Int) 0 G) Q := by
 have hxn := hxW n
 refine Ht.loop (LO16 m a b goal) a.length (by kernel_rfl) ⟨0, G, rfl, Nat.zero_le _, hg, hI, by kernel_rfl⟩ ?_
 clear hI hg G
 rintro z σ ⟨k, G, rfl, hk, hg, hI, hσ⟩
 refine Ht.forget KO (Ht.st hσ ?_)
 clear hσ
 refine Ht.sq (Ht.rg hxn (Ops.sg 1 1 (Ops.dn (seqH.n (Ht.sq ?_)))))
 refine Ht.cond (decide ((k : Int) < (a.length : Int))) (by kernel_rfl) (by kernel_rfl) (fun hc => ?_) (fun hc => ?_)
 case refine_2 =>
  have hc := of_decide_eq_false hc
  rw [List.drop_eq_nil_of_le (by omega)] at hg
  have hg : some true = some goal := hg
  refine Ht.exit (id := 0) (by kernel_rfl) ?_
  exact hQ2 (Option.some.inj hg).symm G _ (by kernel_rfl)
 have hc := of_decide_eq_true hc
 have hk : k < a.length := by omega
 obtain ⟨u, hu⟩ : ∃ u, a[k]? = some u := ⟨_, List.getElem?_eq_getElem hk⟩
 obtain ⟨v, hv⟩ : ∃ v, b[k]? = some v := ⟨_, List.getElem?_eq_getElem (by omega)⟩
 rw [drop_cons hu, drop_cons hv] at hg
 have hw : w64 ((k : Int) + 1) = ((k + 1 : Nat) : Int) := by rw [w64_id ⟨by omega, by omega⟩]; omega
 have hg : (match clEq m u v with
  | some true => clsEq m (a.drop (k + 1)) (b.drop (k + 1))
  | o => o) = some goal := hg
 obtain ⟨res, he⟩ : ∃ res, clEq m u v = some res := by
  cases h : clEq m u v with
  | none => rw [h] at hg; cases hg
  | some r => exact ⟨r, rfl⟩
 rw [he] at hg
 refine Ht.sk (seqH.n (Ht.sq (Ht.bk 1 ?_)))
 refine Ht.forget KO (Ht.st (σ' := SO (a.length : Int) (k : Int) G) (by kernel_rfl) ?_)
 refine class16 n m hn hI hu hv he (fun hr σ hσ => ?_) (fun hr G' σ hI' hσ => ?_)
 ·subst hr
  have hg : some false = some goal := hg
  exact hQ1 (Option.some.inj hg).symm σ hσ
 ·subst hr
  refine blkH.n (seqH.n ?_)
  refine Ht.forget KO (Ht.st hσ (Ht.rg hxn (Ops.sg 2 2 (Ops.dn ?_))))
  exact ⟨a.length - (k + 1), by omega, k + 1, G', rfl, hk, hg, hI', (show Abs.forget KO _ = SO (a.length : Int) (w64 ((k : Int) + 1)) G' by kernel_rfl).trans (by rw [hw])⟩
theorem lex16 (n m : Nat) (hn : m + 6 ≤ n) (a b : S23) (o : Bool) (h : f16 m a b = some o) :
  Ht False Tryz.prog (bodyOf Tryz.prog 16) (startIn Tryz.prog 16 [.v (e23 a), .v (e23 b)] []) (fun e σ => (e = .normal ∨ e = .ret) ∧ Fin16 o σ) := by
 have hxn := hxW n
 have hla : (a.fClasses.map e44).length = a.fClasses.length := List.length_map _
 have hlb : (b.fClasses.map e44).length = b.fClasses.length := List.length_map _
 unfold f16 at h
 show Ht False Tryz.prog C16 _ _
 refine Ht.sq (Ht.rg hxn (Ops.sg 3 3 (Ops.dn (seqH.n (Ht.sq (Ht.sq (Ht.rg hxn (Ops.sg 7 7 (Ops.dn (seqH.n ?_))))))))))
 refine Ht.cond (((a.fClasses.map e44).length : Int) != ((b.fClasses.map e44).length : Int)) (by kernel_rfl) (by kernel_rfl) (fun hc => ?_) (fun hc => ?_)
 ·have hc : ¬ ((a.fClasses.map e44).length : Int) = ((b.fClasses.map e44).length : Int) := by simpa using hc
  rw [hla, hlb] at hc
  rw [if_neg (fun hh => hc (by rw [hh]))] at h
  cases h
  refine Ht.sq (Ht.rg hxn (Ops.sg 1 1 (Ops.dn (seqH.n (Ht.rt ?_)))))
  exact ⟨.inr rfl, finB (by kernel_rfl)⟩
 ·have hc : ((a.fClasses.map e44).length : Int) = ((b.fClasses.map e44).length : Int) := by simpa using hc
  rw [hla, hlb] at hc
  have hl : a.fClasses.length = b.fClasses.length := by omega
  rw [if_pos hl] at h
  split at h
  case isFalse => cases h
  rename_i hlm
  refine Ht.sk (seqH.n (Ht.sq (Ht.sq (Ht.rg hxn (Ops.sg 4 4 (Ops.dn (seqH.n (Ht.bk 0 ?_))))))))
  refine Ht.forget KO (Ht.st (σ' := SO ((a.fClasses.map e44).length : Int) 0 [yL a.fClasses, yL b.fClasses]) (by kernel_rfl) ?_)
  rw [hla]
  refine classes16 n m hn ⟨rfl, rfl⟩ hl hlm h (fun hr σ hσ => ?_) (fun hr G' σ hσ => ?_)
  ·subst hr
   exact ⟨.inr rfl, hσ⟩
  ·subst hr
   refine blkH.x (seqH.n ?_)
   refine Ht.forget [2] (Ht.st hσ (Ht.sq (Ht.rg hxn (Ops.sg 1 1 (Ops.dn (seqH.n (Ht.rt ?_)))))))
   exact ⟨.inr rfl, finB (by kernel_rfl)⟩
end Go.Abs.Xl
