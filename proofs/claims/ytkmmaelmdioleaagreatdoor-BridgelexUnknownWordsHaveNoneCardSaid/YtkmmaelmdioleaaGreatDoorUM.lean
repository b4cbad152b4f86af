import Derived.Test.YtkmmaelmdioleaaGreatDoorAbsEv
import Derived.Test.YtkmmaelmdioleaaGreatDoorAbsTO
import Derived.Test.YtkmmaelmdioleaaGreatDoorEV0
import Derived.Test.YtkmmaelmdioleaaGreatDoorAbsRw
import Derived.Test.YtkmmaelmdioleaaGreatDoorShelf
import Derived.Test.YtkmmaelmdioleaaGreatDoorSL
import Derived.Shelf.SlSortCmp.NoneTotal
namespace Go.Abs.Us
open Go.Sort Go.Proofs
set_option linter.unusedVariables false
set_option linter.unusedSimpArgs false
set_option linter.unnecessarySimpa false
set_option maxRecDepth 100000
abbrev C2 := Int × Int
def eC (c : C2) : V := .agg [.int .i64 c.1, .int .i64 c.2]
def decC : V → Option C2
 | .agg [.int .i64 a, .int .i64 b] => some (a, b)
 | _ => none
theorem decC_spec {v : V} {c : C2} (h : decC v = some c) : v = eC c := by
 unfold decC at h
 split at h
 ·cases h; rfl
 ·cases h
structure SP where
 a : Int
 b : Int
 i : Int
 o : Int
 w : Int
def eS (s : SP) : V := .agg [.int .i64 s.a, .int .i64 s.b, .int .i64 s.i, .int .i64 s.o, .int .i64 s.w]
def decS : V → Option SP
 | .agg [.int .i64 a, .int .i64 b, .int .i64 i, .int .i64 o, .int .i64 w] => some ⟨a, b, i, o, w⟩
 | _ => none
theorem decS_spec {v : V} {c : SP} (h : decS v = some c) : v = eS c := by
 unfold decS at h
 split at h
 ·cases h; rfl
 ·cases h
def SP.to (s : SP) : C2 := (s.a, s.b)
def decL : V → Option (List SP)
 | .sl .plain es => allM decS es
 | _ => none
def insG {α : Type} (lt : α → α → Bool) (x : α) : List α → List α
 | [] => [x]
 | y :: r => if lt y x then y :: insG lt x r else x :: y :: r
def isrt {α : Type} (lt : α → α → Bool) : List α → List α
 | [] => []
 | x :: r => insG lt x (isrt lt r)
theorem map_insG {α β : Type} {lt : α → α → Bool} {lt' : β → β → Bool} (f : α → β) (h : ∀ a b, lt' (f a) (f b) = lt a b) (x : α) : ∀ l, (insG lt x l).map f = insG lt' (f x) (l.map f)
 | [] => rfl
 | y :: r => by
  simp only [insG, List.map_cons, h]
  split
  ·rw [List.map_cons, map_insG f h x r]
  ·rfl
theorem map_isrt {α β : Type} {lt : α → α → Bool} {lt' : β → β → Bool} (f : α → β) (h : ∀ a b, lt' (f a) (f b) = lt a b) : ∀ l, (isrt lt l).map f = isrt lt' (l.map f)
 | [] => rfl
 | x :: r => by rw [isrt, map_insG f h, map_isrt f h r]; rfl
theorem insG_perm {α : Type} (lt : α → α → Bool) (x : α) : ∀ l, (insG lt x l).Perm (x :: l)
 | [] => .refl _
 | y :: r => by
  simp only [insG]
  split
  ·exact ((insG_perm lt x r).cons y).trans (.swap x y r)
  ·exact .refl _
theorem isrt_perm {α : Type} (lt : α → α → Bool) : ∀ l, (isrt lt l).Perm l
 | [] => .refl _
 | x :: r => (insG_perm lt x _).trans ((isrt_perm lt r).cons x)
theorem insG_sorted {α : Type} {c : α → α → Int} (hc : TO c) (x : α) : ∀ l : List α, l.Pairwise (fun a b => ltOf c b a = false) → (insG (ltOf c) x l).Pairwise fun a b => ltOf c b a = false
 | [], _ => by simp [insG]
 | y :: r, h => by
  obtain ⟨h1, h2⟩ := List.pairwise_cons.1 h
  simp only [insG]
  split
  ·rename_i hl
   refine List.pairwise_cons.2 ⟨fun z hz => ?_, insG_sorted hc x r h2⟩
   rcases List.mem_cons.1 ((insG_perm _ x r).mem_iff.1 hz) with rfl | hz
   ·have h3 := (TO.lt_iff (c := c) _ _).1 hl
    rw [TO.lt_false]
    have := (hc.sw _ _).1 h3
    omega
   ·exact h1 z hz
  ·rename_i hl
   have hl : ltOf c y x = false := by simpa using hl
   refine List.pairwise_cons.2 ⟨fun z hz => ?_, h⟩
   rcases List.mem_cons.1 hz with rfl | hz
   ·exact hl
   ·exact hc.swo.ntrans _ _ _ (h1 z hz) hl
theorem isrt_sorted {α : Type} {c : α → α → Int} (hc : TO c) : ∀ l : List α, (isrt (ltOf c) l).Pairwise fun a b => ltOf c b a = false
 | [] => .nil
 | x :: r => insG_sorted hc x _ (isrt_sorted hc r)
theorem isrt_is {α : Type} {c : α → α → Int} (hc : TO c) (l l' : List α) (hp : l'.Perm l) (hs : l'.Pairwise fun a b => ltOf c b a = false) : l' = isrt (ltOf c) l :=
 srtC_uniq hc (hp.trans (isrt_perm _ l).symm) hs (isrt_sorted hc l)
def subC (x y : Int) : Int := x - y
theorem toSub : TO subC := ⟨fun x y => by unfold subC; omega, fun x y => by unfold subC; omega, fun x y z => by unfold subC; omega⟩
def cmpC : C2 → C2 → Int := prodC subC subC
theorem toC : TO cmpC := toSub.prod toSub
theorem isrt_uniq {l l' : List C2} (h : l.Perm l') : isrt (ltOf cmpC) l = isrt (ltOf cmpC) l' :=
 srtC_uniq toC ((isrt_perm _ l).trans (h.trans (isrt_perm _ l').symm)) (isrt_sorted toC l) (isrt_sorted toC l')
def eqC (x y : C2) : Bool := decide (x.1 = y.1) && decide (x.2 = y.2)
theorem eqC_iff {x y : C2} : eqC x y = true ↔ x = y := by
 cases x; cases y
 simp [eqC]
def inC (x : C2) (l : List C2) : Bool := l.any (eqC x)
theorem inC_iff {x : C2} {l : List C2} : inC x l = true ↔ x ∈ l := by
 unfold inC
 rw [List.any_eq_true]
 exact ⟨fun ⟨y, hy, h⟩ => by rw [eqC_iff.1 h]; exact hy, fun h => ⟨x, h, eqC_iff.2 rfl⟩⟩
abbrev Edges := List (C2 × List C2)
def stepU (es : Edges) (S : List C2) : List C2 := (es.filter fun e => inC e.1 S || e.2.any fun t => inC t S).map (·.1)
def iterU (es : Edges) : Nat → List C2 → List C2
 | 0, S => S
 | n + 1, S => iterU es n (stepU es S)
def nodupC : List C2 → Bool
 | [] => true
 | x :: r => !inC x r && nodupC r
theorem nodupC_iff : ∀ {l : List C2}, nodupC l = true → l.Nodup
 | [], _ => .nil
 | x :: r, h => by
  simp only [nodupC, Bool.and_eq_true, Bool.not_eq_true'] at h
  refine List.nodup_cons.2 ⟨fun hm => ?_, nodupC_iff h.2⟩
  rw [inC_iff.2 hm] at h
  cases h.1
def okI (x : Int) : Bool := decide (0 ≤ x) && decide (x < 1000000000)
def okU (es : Edges) (fs S : List C2) : Bool :=
 ((stepU es S).all fun c => inC c S) && ((fs.all fun c => inC c S) && (decide (S.length < 1048576) && (nodupC S && ((S.all fun c => okI c.1 && okI c.2) && (decide (es.length < 1048576) && (decide (fs.length < 1048576) && es.all fun e => decide (e.2.length < 1048576)))))))
def setU (es : Edges) (fs : List C2) : List C2 := iterU es es.length ((es.map (·.1)).filter fun k => inC k fs)
def usefulL (es : Edges) (fs : List C2) : Option (List C2) := if okU es fs (setU es fs) then some (isrt (ltOf cmpC) (setU es fs)) else none
theorem iterU_sub {es : Edges} {T : List C2} (ht : ∀ e ∈ es, ∀ t ∈ e.2, t ∈ T → e.1 ∈ T) : ∀ (n : Nat) (S : List C2), (∀ c ∈ S, c ∈ T) → ∀ c ∈ iterU es n S, c ∈ T
 | 0, S, h => h
 | n + 1, S, h => iterU_sub ht n _ fun c hc => by
  unfold stepU at hc
  obtain ⟨e, he, rfl⟩ := List.mem_map.1 hc
  obtain ⟨h1, h2⟩ := List.mem_filter.1 he
  rw [Bool.or_eq_true] at h2
  rcases h2 with h2 | h2
  ·exact h _ (inC_iff.1 h2)
  ·obtain ⟨t, h3, h4⟩ := List.any_eq_true.1 h2
   exact ht e h1 t h3 (h _ (inC_iff.1 h4))
structure OkU (es : Edges) (fs S : List C2) : Prop where
 step : ∀ e ∈ es, ∀ t ∈ e.2, t ∈ S → e.1 ∈ S
 fin : ∀ c ∈ fs, c ∈ S
 nd : S.Nodup
 le : ∀ c ∈ S, okI c.1 = true ∧ okI c.2 = true
 l1 : es.length < 1048576
 l2 : fs.length < 1048576
 l3 : ∀ e ∈ es, e.2.length < 1048576
 l4 : S.length < 1048576
theorem okU_iff {es : Edges} {fs S : List C2} (h : okU es fs S = true) : OkU es fs S := by
 simp only [okU, Bool.and_eq_true, decide_eq_true_eq, List.all_eq_true] at h
 obtain ⟨h1, h2, h8, h3, h4, h5, h6, h7⟩ := h
 exact ⟨fun e he t ht hs => inC_iff.1 (h1 e.1 (List.mem_map.2 ⟨e, List.mem_filter.2 ⟨he, by rw [Bool.or_eq_true]; exact .inr (List.any_eq_true.2 ⟨t, ht, inC_iff.2 hs⟩)⟩, rfl⟩)), fun c hc => inC_iff.1 (h2 c hc), nodupC_iff h3, h4, h5, h6, h7, h8⟩
theorem setU_perm {es : Edges} {fs T : List C2} (h : okU es fs (setU es fs) = true) (hn : T.Nodup) (h1 : ∀ c ∈ T, c ∈ setU es fs) (h2 : ∀ c ∈ fs, c ∈ T) (h3 : ∀ e ∈ es, ∀ t ∈ e.2, t ∈ T → e.1 ∈ T) : T.Perm (setU es fs) := by
 have ho := okU_iff h
 refine (List.perm_ext_iff_of_nodup hn ho.nd).2 fun c => ⟨h1 c, fun hc => ?_⟩
 refine iterU_sub h3 _ _ (fun c hc => ?_) c hc
 obtain ⟨_, hk⟩ := List.mem_filter.1 hc
 exact h2 c (inC_iff.1 hk)
def decA (ks vs : List V) : Option (List (C2 × List SP)) := match allM decC ks, allM decL vs with
 | some ks, some ls => some (ks.zip ls)
 | _, _ => none
def usefulV (ks vs fk : List V) : Option (List C2) := match decA ks vs, allM decC fk with
 | some A, some F => usefulL (A.map fun e => (e.1, e.2.map SP.to)) F
 | _, _ => none
def F64 : List D → List AObj → Option (D × List AObj)
 | [.v (.agg [.map ks vs, .map fk fv])], [] => if ks.length = vs.length ∧ fk.length = fv.length then (usefulV ks vs fk).map fun l => match l with
   | [] => (.v (.sl .nil []), [])
   | c :: r => (.osl 0 0 (c :: r).length false, [.row 2 ((c :: r).map eC)]) else none
 | _, _ => none
theorem names_ok : ∀ (f : Nat) fn, Tryz.prog.funcs[f]? = some fn → (fn.name == "runtime.NumGoroutine") = false := by
 have h : (List.range Tryz.prog.funcs.size).all (fun f => match Tryz.prog.funcs[f]? with
  | some fn => !(fn.name == "runtime.NumGoroutine")
  | none => true) = true := by kernel_rfl
 intro f fn hf
 have h1 := List.all_eq_true.1 h f (List.mem_range.2 (Array.getElem?_eq_some_iff.1 hf).1)
 rw [hf] at h1
 simpa using h1
structure CP where
 c : C2
 h : okI c.1 = true ∧ okI c.2 = true
def CP.e (x : CP) : V := eC x.c
def decP (v : V) : Option CP := match decC v with
 | some c => if h : okI c.1 = true ∧ okI c.2 = true then some ⟨c, h⟩ else none
 | none => none
theorem decP_spec {v : V} {x : CP} (h : decP v = some x) : v = x.e := by
 unfold decP at h
 split at h
 ·rename_i c hc
  split at h
  ·cases h; exact decC_spec hc
  ·cases h
 ·cases h
def cmpP (x y : CP) : Int := cmpC x.c y.c
theorem toP : TO cmpP := toC.comap CP.c fun x y h => by cases x; cases y; cases h; rfl
noncomputable abbrev C103 : Code := bodyOf Tryz.prog 103
def E0 : Env := { T := TW, pureF := fun _ => false, keep := fun _ => ⟨fun _ => [], fun _ => [], fun _ => []⟩, acc := fun _ => [], rowF := fun _ => false, rowM := false, ora := fun _ => none, oraD := fun _ => none, dynP := true }
theorem good0 {DR : Prop} : Good DR Tryz.prog E0 := ⟨by kernel_rfl, TW_ok, names_ok, (fun f F h => nomatch h), (fun f F h => nomatch h)⟩
noncomputable def X0 (n : Nat) : Cx := ⟨E0, run Tryz.prog E0 n, ⟨fun _ => [], fun _ => [], fun _ => []⟩, [], n⟩
theorem hx0 {DR : Prop} (n : Nat) : Hx DR Tryz.prog (X0 n) := ⟨(good0 (DR := DR)).mixed, TW_ok, run_sound good0 n⟩
theorem hxz : Hx True Tryz.prog (X0 0) := hx0 0
def Sm (n : Nat) (l : List (Nat × D)) (h : List AObj) : St := ⟨(List.range n).map fun i => (l.lookup i).getD .undef, h⟩
theorem seqH.x {DR : Prop} {P : Program} {b : Code} {Q : Post} {id : Nat} {σ : St} (h : Q (.exit id) σ) : seqH DR P b Q (.exit id) σ := h
theorem seqH.r {DR : Prop} {P : Program} {b : Code} {Q : Post} {σ : St} (h : Q .ret σ) : seqH DR P b Q .ret σ := h
theorem blkH.r {id : Nat} {Q : Post} {σ : St} (h : Q .ret σ) : blkH id Q .ret σ := h
theorem blkH.n {id : Nat} {Q : Post} {σ : St} (h : Q .normal σ) : blkH id Q .normal σ := h
theorem Ht.st {DR : Prop} {P : Program} {c : Code} {σ σ' : St} {Q : Post} (e : σ = σ') (h : Ht DR P c σ' Q) : Ht DR P c σ Q := by rw [e]; exact h
theorem w64_sub {x y : Int} (hx : okI x = true) (hy : okI y = true) : w64 (x - y) = x - y := by
 simp only [okI, Bool.and_eq_true, decide_eq_true_eq] at hx hy
 exact w64_id ⟨by omega, by omega⟩
theorem cmp103 (x y : CP) : Ht True Tryz.prog C103 (startIn Tryz.prog 103 [.v x.e, .v y.e] []) (fun e σ => (e = .normal ∨ e = .ret) ∧ ∃ d, resultsD TW σ (resOf Tryz.prog 103) = some d ∧ frz σ.heap 3 d = some (.int .i64 (cmpP x y))) := by
 obtain ⟨⟨a, b⟩, hx⟩ := x
 obtain ⟨⟨c, d⟩, hy⟩ := y
 have w1 := w64_sub hx.1 hy.1
 have w2 := w64_sub hx.2 hy.2
 refine Ht.seq (by kernel_rfl) ?_
 refine Ht.region hxz (by kernel_rfl) ?_
 refine Ops.seg' 3 3 (by kernel_rfl) ?_
 refine Ops.done (by kernel_rfl) ?_
 refine seqH.n ?_
 refine Ht.seq (by kernel_rfl) ?_
 refine Ht.seq (by kernel_rfl) ?_
 refine Ht.region hxz (by kernel_rfl) ?_
 refine Ops.seg' 5 5 (by kernel_rfl) ?_
 refine Ops.done (by kernel_rfl) ?_
 refine seqH.n ?_
 by_cases h : a = c
 ·refine Ht.cond false (by kernel_rfl) (Eq.trans (b := D.v (V.bool (!(decide (a = c))))) (by kernel_rfl) (by rw [decide_eq_true h]; rfl)) (fun h => nomatch h) (fun _ => ?_)
  refine Ht.skip (by kernel_rfl) ?_
  refine seqH.n ?_
  refine Ht.seq (by kernel_rfl) ?_
  refine Ht.region hxz (by kernel_rfl) ?_
  refine Ops.seg' 6 6 (by kernel_rfl) ?_
  refine Ops.done (by kernel_rfl) ?_
  refine seqH.n ?_
  refine Ht.ret (by kernel_rfl) ?_
  refine ⟨.inr rfl, .v (.int .i64 (w64 (b - d))), by kernel_rfl, ?_⟩
  have h2 : cmpP ⟨(a, b), hx⟩ ⟨(c, d), hy⟩ = b - d := by
   simp [cmpP, cmpC, prodC, lexC, subC, h]
  exact congrArg (fun z => some (V.int .i64 z)) (w2.trans h2.symm)
 ·refine Ht.cond true (by kernel_rfl) (Eq.trans (b := D.v (V.bool (!(decide (a = c))))) (by kernel_rfl) (by rw [decide_eq_false h]; rfl)) (fun _ => ?_) (fun h => nomatch h)
  refine Ht.seq (by kernel_rfl) ?_
  refine Ht.region hxz (by kernel_rfl) ?_
  refine Ops.seg' 6 6 (by kernel_rfl) ?_
  refine Ops.done (by kernel_rfl) ?_
  refine seqH.n ?_
  refine Ht.ret (by kernel_rfl) ?_
  refine seqH.r ⟨.inr rfl, .v (.int .i64 (w64 (a - c))), by kernel_rfl, ?_⟩
  have h2 : cmpP ⟨(a, b), hx⟩ ⟨(c, d), hy⟩ = a - c := by
   have : a - c ≠ 0 := by omega
   simp [cmpP, cmpC, prodC, lexC, subC, this]
  exact congrArg (fun z => some (V.int .i64 z)) (w1.trans h2.symm)
set_option maxHeartbeats 2000000
theorem cmpOk : CmpOk Tryz.prog 103 CP.e cmpP := by
 intro x y S w us hrel hs hg
 have hi := hinv_nil hs hg
 refine (callT_of_ht (c := C103) (Qc := fun d h' => frz h' 3 d = some (.int .i64 (cmpP x y))) Tryz.func103 (by kernel_rfl) TW_ok (cmp103 x y) S [] w us hrel hi).mono ?_
 rintro e w' ⟨d, h', v, S1, β1, hz, rfl, hE1, hI1, hR1⟩
 have hin : ∀ b i, withOwn S1 β1 h' b i → S b i ∨ w.heap.size ≤ b := by
  intro b i hs
  rcases hs with hs | ⟨q, o, c, k, g1, g2, g3⟩
  ·rcases hE1.stay b i hs with g | g | ⟨q, c, k, g⟩
   ·exact .inl g
   ·exact .inr g
   ·simp at g
  ·obtain ⟨k', rfl⟩ := hI1.kpos g1 g2 g3
   rcases hE1.fresh q b c k' g3 with g | ⟨q', c', k'', g⟩
   ·exact .inr g
   ·simp at g
 obtain ⟨b1, b2⟩ := back_from (S' := withOwn S1 β1 h') (h1 := h') hi hE1 (fun _ _ h => h) (fun b i hs => .inl (hE1.keeps b i hs).1) hin (own_sb hI1)
 have := frz_sound hI1 3 _ _ _ hz hR1
 cases this
 exact ⟨rfl, _, b1⟩
theorem is102 : Is Tryz.prog 102 := ⟨Tryz.f102, Tryz.func102, by kernel_rfl, by kernel_rfl⟩
def sortU : List D → List AObj → Option (D × List AObj) := sortFnF 2 103 decP CP.e (isrt (ltOf cmpP))
theorem sort102 : DOk False Tryz.prog 102 sortU :=
 sortFn_sound is102 cmpP cmpOk toP.swo (fun _ _ h => decP_spec h) (by decide) (fun a => ⟨_, rfl, rfl, rfl⟩)
  (fun enc' cf' blk off cap d w hk h1 hO hc hH hb hs => AnyQ.slices_SortFunc Tryz.laysSU 2 (fun w => by kernel_rfl) (fun w => by kernel_rfl) enc' hk h1 cf' hO 103 #[] blk off cap d w (enters_of Tryz.func103 (by kernel_rfl) rfl) hc hH hb hs)
  (fun p cap fv w => AnyF.slices_SortFunc_none Tryz.laysSU p cap fv w) (isrt_is toP)
def EU : Env := { T := TW, pureF := fun g => g != 102, keep := fun _ => ⟨fun _ => [], fun _ => [], fun _ => []⟩, acc := fun _ => [], rowF := fun _ => true, rowM := true, bldTy := fun t => t == 150, ora := fun _ => none, oraD := fun f => if f = 102 then some sortU else none, dynP := true }
theorem goodU : Good False Tryz.prog EU := ⟨by kernel_rfl, TW_ok, names_ok, (fun f F h => nomatch h), fun f F h => by
 have h : (if f = 102 then some sortU else none) = some F := h
 split at h
 ·rename_i e; subst e; cases h; exact sort102
 ·cases h⟩
noncomputable def XU (n : Nat) : Cx := ⟨EU, run Tryz.prog EU n, ⟨fun _ => [], fun _ => [], fun _ => []⟩, [], n⟩
theorem hxU (n : Nat) : Hx False Tryz.prog (XU n) := ⟨goodU.mixed, TW_ok, run_sound goodU n⟩
theorem mid_get (A : List AObj) (x : AObj) (l : List AObj) : (A ++ x :: l)[A.length]? = some x := by rw [List.getElem?_append_right (Nat.le_refl _), Nat.sub_self]; rfl
theorem set_keep {G : List AObj} {r q : Nat} {x o : AObj} (hne : q ≠ r) (h : G[r]? = some o) : (G.set q x)[r]? = some o := by rw [List.getElem?_set_ne hne]; exact h
theorem app_keep {G l : List AObj} {r : Nat} {o : AObj} (h : G[r]? = some o) : (G ++ l)[r]? = some o := by rw [List.getElem?_append_left (lt_of_getElem? h)]; exact h
theorem keyC (x : C2) : keyOk TW 153 (eC x) = true := by kernel_rfl
theorem eqVC (x y : C2) : eqV TW 8 153 (eC x) (eC y) = some ((x.1 == y.1) && ((x.2 == y.2) && true)) := by kernel_rfl
theorem beqC (x y : C2) : ((x.1 == y.1) && ((x.2 == y.2) && true)) = decide (x = y) := by
 obtain ⟨a, b⟩ := x
 obtain ⟨c, d⟩ := y
 rw [Bool.and_true]
 by_cases h1 : a = c
 ·by_cases h2 : b = d
  ·subst h1 h2; simp
  ·simp [h1, h2]
 ·simp [h1]
theorem keyFindC (x : C2) : ∀ (l : List C2) (i : Nat), keyFind TW 153 (eC x) (l.map eC) i = some (if x ∈ l then some (i + l.idxOf x) else none)
 | [], i => rfl
 | y :: r, i => by
  show (match eqV TW 8 153 (eC x) (eC y) with
   | some true => if keyTwin (eC x) (eC y) then some (some i) else none
   | some false => keyFind TW 153 (eC x) (r.map eC) (i + 1)
   | none => none) = _
  rw [eqVC, beqC]
  by_cases h : x = y
  ·subst h
   rw [decide_eq_true rfl]
   have ht : keyTwin (eC x) (eC x) = true := by
    show intsB _ _ = true
    simp [intsB]
   simp [ht]
  ·rw [decide_eq_false h]
   show keyFind TW 153 (eC x) (r.map eC) (i + 1) = _
   rw [keyFindC x r (i + 1)]
   by_cases hm : x ∈ r
   ·rw [if_pos hm, if_pos (List.mem_cons_of_mem _ hm), List.idxOf_cons, show (y == x) = false by simpa using fun e => h e.symm]
    simp; omega
   ·rw [if_neg hm, if_neg (by simp [h, hm])]
abbrev nilD : D := .v (.sl .nil [])
theorem el1 {h : List AObj} {q : Nat} {xs : List C2} (hq : h[q]? = some (.row 2 (xs.map eC))) : elemsOf 2 h (D.unt (.osl q 0 xs.length false)) = some (xs.map eC) := by
 simp only [D.unt, elemsOf, hq]
 rw [if_pos ⟨trivial, by simp⟩, List.drop_zero, List.take_of_length_le (by simp)]
theorem ap_o {h : List AObj} {q : Nat} {T xs : List C2} {x : D} (hq : h[q]? = some (.row 2 (T.map eC))) (hx : elemsOf 2 h x.unt = some (xs.map eC)) (hl : T.length + xs.length < 8796093022207) :
  appendD TW true 150 h (.osl q 0 T.length false) x = some (.osl h.length 0 (T ++ xs).length false, h.set q .dead ++ [.row 2 ((T ++ xs).map eC)]) := by
 have h1 : TW 150 = some tw150 := rfl
 have h2 : TW 153 = some tw153 := rfl
 simp only [appendD, h1, show tw150.kind = .slice 153 from rfl, h2]
 rw [if_neg (by decide), show tw153.size = 2 from rfl, hx]
 simp only [hq, Bool.true_eq_false, if_false]
 rw [if_pos ⟨trivial, by simp, by rw [show tw153.bytes = 16 from rfl, List.length_map]; omega, by rw [List.length_map]; unfold maxLen; omega⟩]
 have ht : List.take T.length (List.map eC T) = List.map eC T := List.take_of_length_le (by simp)
 simp only [Bool.false_eq_true, if_false, if_true, ht, List.length_append, List.length_map, List.map_append]
theorem ap_n {h : List AObj} {xs : List C2} {x : D} (hx : elemsOf 2 h x.unt = some (xs.map eC)) (hn : xs ≠ []) (hl : xs.length < 8796093022207) :
  appendD TW true 150 h nilD x = some (.osl h.length 0 xs.length false, h ++ [.row 2 (xs.map eC)]) := by
 have h1 : TW 150 = some tw150 := rfl
 have h2 : TW 153 = some tw153 := rfl
 simp only [appendD, h1, show tw150.kind = .slice 153 from rfl, h2]
 rw [if_neg (by decide), show tw153.size = 2 from rfl, hx]
 cases xs with
 | nil => exact absurd rfl hn
 | cons a r =>
  simp only [List.map_cons]
  rw [if_pos ?_]
  ·simp
  ·simp only [Bool.and_eq_true, decide_eq_true_eq]
   refine ⟨⟨⟨rfl, rfl⟩, ?_⟩, ?_⟩
   ·rw [show tw153.bytes = 16 from rfl]
    simp at hl ⊢
    omega
   ·unfold maxLen
    simp at hl ⊢
    omega
theorem ap_1 {h : List AObj} {q r : Nat} {T : List C2} {c : C2} (hq : h[q]? = some (.row 2 (T.map eC))) (hr : h[r]? = some (.row 2 [eC c])) (hl : T.length < 4398046511104) :
  appendD TW true 150 h (.osl q 0 T.length false) (.osl r 0 1 false) = some (.osl h.length 0 (T ++ [c]).length false, h.set q .dead ++ [.row 2 ((T ++ [c]).map eC)]) :=
 ap_o (xs := [c]) hq (el1 (xs := [c]) hr) (by simp; omega)
theorem ap_0 {h : List AObj} {r : Nat} {c : C2} (hr : h[r]? = some (.row 2 [eC c])) : appendD TW true 150 h nilD (.osl r 0 1 false) = some (.osl h.length 0 1 false, h ++ [.row 2 [eC c]]) :=
 ap_n (xs := [c]) (el1 (xs := [c]) hr) (by simp) (by simp)
set_option maxHeartbeats 4000000
theorem nodup_set : ∀ {l : List Nat} {j n : Nat}, l.Nodup → n ∉ l → (l.set j n).Nodup
 | [], _, _, _, _ => by simp
 | x :: r, 0, n, h, hn => by
  simp only [List.set_cons_zero, List.nodup_cons, List.mem_cons, not_or] at *
  exact ⟨hn.2, h.2⟩
 | x :: r, j + 1, n, h, hn => by
  simp only [List.set_cons_succ, List.nodup_cons, List.mem_cons, not_or] at *
  refine ⟨fun hm => ?_, nodup_set h.2 hn.2⟩
  rcases List.mem_or_eq_of_mem_set hm with h1 | h1
  ·exact h.1 h1
  ·exact hn.1 h1.symm
theorem set_self' {α : Type} {l : List α} {j : Nat} {x : α} (h : l[j]? = some x) : l.set j x = l := by
 refine List.ext_getElem? fun i => ?_
 rw [List.getElem?_set]
 split
 ·rename_i e; subst e
  rw [if_pos (lt_of_getElem? h), h]
 ·rfl
abbrev BE := C2 × List C2 × Nat
abbrev kB (B : List BE) : List V := (B.map (·.1)).map eC
abbrev vB (B : List BE) : List D := B.map fun e => .osl e.2.2 0 e.2.1.length false
def sumB (B : List BE) : Nat := B.foldr (fun e n => e.2.1.length + n) 0
structure BK (G : List AObj) (B : List BE) : Prop where
 map : G[1]? = some (.map (kB B) (vB B))
 row : ∀ e ∈ B, G[e.2.2]? = some (.row 2 (e.2.1.map eC))
 nd : (B.map fun e => e.2.2).Nodup
 kd : (B.map (·.1)).Nodup
theorem BK.ne1 {G : List AObj} {B : List BE} (h : BK G B) {e : BE} (he : e ∈ B) : e.2.2 ≠ 1 := fun q => by
 have := h.row e he
 rw [q, h.map] at this
 cases this
theorem BK.app {G : List AObj} {B : List BE} (h : BK G B) (l : List AObj) : BK (G ++ l) B := ⟨app_keep h.map, fun e he => app_keep (h.row e he), h.nd, h.kd⟩
theorem BK.set {G : List AObj} {B : List BE} (h : BK G B) {q : Nat} (x : AObj) (h1 : q ≠ 1) (h2 : ∀ e ∈ B, e.2.2 ≠ q) : BK (G.set q x) B := ⟨set_keep h1 h.map, fun e he => set_keep (fun e' => h2 e he e'.symm) (h.row e he), h.nd, h.kd⟩
theorem BK.other {G : List AObj} {B : List BE} (h : BK G B) {q : Nat} {o : AObj} (hq : G[q]? = some o) (ho : ∀ l, o ≠ .row 2 l) : ∀ e ∈ B, e.2.2 ≠ q := fun e he e' => by
 have := h.row e he
 rw [e', hq] at this
 cases this
 exact ho _ rfl
theorem key_old {B : List BE} {t : C2} (h : t ∈ B.map (·.1)) : ∃ e, B[(B.map (·.1)).idxOf t]? = some e ∧ e.1 = t := by
 have hl := List.idxOf_lt_length_of_mem h
 have h2 := List.getElem_idxOf hl
 have hl' := hl
 rw [List.length_map] at hl'
 refine ⟨B[(B.map (·.1)).idxOf t], List.getElem?_eq_getElem hl', ?_⟩
 rw [List.getElem_map] at h2
 exact h2
theorem BK.old {K : List AObj} {B : List BE} {j : Nat} {e : BE} (c : C2) (h : BK K B) (hj : B[j]? = some e) :
  BK (List.set (K.set e.2.2 .dead ++ [AObj.row 2 ((e.2.1 ++ [c]).map eC)]) 1 (.map (kB B) ((vB B).set j (.osl K.length 0 (e.2.1 ++ [c]).length false)))) (B.set j (e.1, e.2.1 ++ [c], K.length)) := by
 have hl1 := lt_of_getElem? h.map
 have he := List.mem_of_getElem? hj
 have hlt : ∀ x ∈ B, x.2.2 < K.length := fun x hx => lt_of_getElem? (h.row x hx)
 have hn1 : K.length ≠ 1 := by omega
 refine ⟨?_, fun x hx => ?_, ?_, ?_⟩
 ·rw [List.getElem?_set_self (by simp; omega)]
  congr 1
  congr 1
  ·show _ = (List.map _ (B.set j _)).map eC
   rw [List.map_set, set_self' (by rw [List.getElem?_map, hj]; rfl)]
  ·show _ = List.map _ (B.set j _)
   rw [List.map_set]
 ·obtain ⟨i, hi⟩ := List.mem_iff_getElem?.1 hx
  rw [List.getElem?_set] at hi
  split at hi
  ·split at hi
   ·cases hi
    show (List.set _ 1 _)[K.length]? = _
    rw [List.getElem?_set_ne (Ne.symm hn1)]
    have := mid_get (K.set e.2.2 .dead) (.row 2 ((e.2.1 ++ [c]).map eC)) []
    rwa [List.length_set] at this
   ·cases hi
  ·rename_i hne
   have hxB := List.mem_of_getElem? hi
   refine set_keep (Ne.symm (h.ne1 hxB)) (app_keep (set_keep (fun e' => ?_) (h.row x hxB)))
   have h1 := lt_of_getElem? hi
   have h2 := lt_of_getElem? hj
   have hp := List.pairwise_iff_getElem.1 h.nd
   have e1 : B[i] = x := by rw [List.getElem?_eq_getElem h1] at hi; exact Option.some.inj hi
   have e2 : B[j] = e := by rw [List.getElem?_eq_getElem h2] at hj; exact Option.some.inj hj
   rcases Nat.lt_or_gt_of_ne hne with g | g
   ·exact hp j i (by simpa using h2) (by simpa using h1) g (by simp [e1, e2, e'])
   ·exact hp i j (by simpa using h1) (by simpa using h2) g (by simp [e1, e2, e'])
 ·rw [List.map_set]
  exact nodup_set h.nd fun hm => by
   obtain ⟨x, hx, e'⟩ := List.mem_map.1 hm
   have := hlt x hx
   have e' : x.2.2 = K.length := e'
   omega
 ·rw [List.map_set, set_self' (by rw [List.getElem?_map, hj]; rfl)]
  exact h.kd
theorem BK.new {K : List AObj} {B : List BE} {t : C2} (c : C2) (h : BK K B) (ht : t ∉ B.map (·.1)) :
  BK (List.set (K.set 1 (.map (kB B ++ [eC t]) (vB B ++ [nilD])) ++ [AObj.row 2 [eC c]]) 1 (.map (kB B ++ [eC t]) ((vB B ++ [nilD]).set B.length (.osl (K.set 1 (.map (kB B ++ [eC t]) (vB B ++ [nilD]))).length 0 1 false)))) (B ++ [(t, [c], K.length)]) := by
 have hl1 := lt_of_getElem? h.map
 have hlt : ∀ x ∈ B, x.2.2 < K.length := fun x hx => lt_of_getElem? (h.row x hx)
 have hn1 : K.length ≠ 1 := by omega
 refine ⟨?_, fun x hx => ?_, ?_, ?_⟩
 ·rw [List.getElem?_set_self (by simp; omega)]
  congr 1
  congr 1
  ·simp [kB]
  ·rw [List.set_append_right _ _ (by simp [vB])]
   simp [vB]
 ·rcases List.mem_append.1 hx with hx | hx
  ·exact set_keep (Ne.symm (h.ne1 hx)) (app_keep (set_keep (Ne.symm (h.ne1 hx)) (h.row x hx)))
  ·rw [List.mem_singleton] at hx
   subst hx
   show (List.set _ 1 _)[K.length]? = _
   rw [List.getElem?_set_ne (Ne.symm hn1)]
   have := mid_get (K.set 1 (.map (kB B ++ [eC t]) (vB B ++ [nilD]))) (.row 2 [eC c]) []
   rwa [List.length_set] at this
 ·rw [List.map_append, List.nodup_append]
  refine ⟨h.nd, by simp, fun a ha b hb e' => ?_⟩
  obtain ⟨x, hx, e1⟩ := List.mem_map.1 ha
  simp only [List.map_cons, List.map_nil, List.mem_singleton] at hb
  have := hlt x hx
  have e1 : x.2.2 = a := e1
  omega
 ·rw [List.map_append, List.nodup_append]
  refine ⟨h.kd, by simp, fun a ha b hb e' => ?_⟩
  simp only [List.map_cons, List.map_nil, List.mem_singleton] at hb
  subst hb e'
  exact ht ha
theorem mb_old {B : List BE} {j : Nat} {e : BE} {c : C2} {n : Nat} (hj : B[j]? = some e) (t' c' : C2) : (∃ x ∈ B.set j (e.1, e.2.1 ++ [c], n), x.1 = t' ∧ c' ∈ x.2.1) ↔ (∃ x ∈ B, x.1 = t' ∧ c' ∈ x.2.1) ∨ (t' = e.1 ∧ c' = c) := by
 have hjl := lt_of_getElem? hj
 constructor
 ·rintro ⟨x, hx, h1, h2⟩
  obtain ⟨i, hi⟩ := List.mem_iff_getElem?.1 hx
  rw [List.getElem?_set] at hi
  split at hi
  ·simp only [Option.some.injEq] at hi
   subst hi
   rcases List.mem_append.1 h2 with h2 | h2
   ·exact .inl ⟨e, List.mem_of_getElem? hj, h1, h2⟩
   ·exact .inr ⟨h1.symm, List.mem_singleton.1 h2⟩
  ·exact .inl ⟨x, List.mem_of_getElem? hi, h1, h2⟩
 ·rintro (⟨x, hx, h1, h2⟩ | ⟨rfl, rfl⟩)
  ·obtain ⟨i, hi⟩ := List.mem_iff_getElem?.1 hx
   by_cases hij : j = i
   ·subst hij
    rw [hj] at hi
    cases hi
    exact ⟨(e.1, e.2.1 ++ [c], n), List.mem_of_getElem? (List.getElem?_set_self hjl), h1, List.mem_append.2 (.inl h2)⟩
   ·exact ⟨x, List.mem_of_getElem? (by rw [List.getElem?_set_ne hij]; exact hi), h1, h2⟩
  ·exact ⟨(e.1, e.2.1 ++ [c'], n), List.mem_of_getElem? (List.getElem?_set_self hjl), rfl, List.mem_append.2 (.inr (List.mem_singleton.2 rfl))⟩
theorem mb_new {B : List BE} {t c : C2} {n : Nat} (t' c' : C2) : (∃ x ∈ B ++ [(t, [c], n)], x.1 = t' ∧ c' ∈ x.2.1) ↔ (∃ x ∈ B, x.1 = t' ∧ c' ∈ x.2.1) ∨ (t' = t ∧ c' = c) := by
 constructor
 ·rintro ⟨x, hx, h1, h2⟩
  rcases List.mem_append.1 hx with hx | hx
  ·exact .inl ⟨x, hx, h1, h2⟩
  ·rw [List.mem_singleton] at hx
   subst hx
   exact .inr ⟨h1.symm, List.mem_singleton.1 h2⟩
 ·rintro (⟨x, hx, h1, h2⟩ | ⟨rfl, rfl⟩)
  ·exact ⟨x, List.mem_append.2 (.inl hx), h1, h2⟩
  ·exact ⟨_, List.mem_append.2 (.inr (List.mem_singleton.2 rfl)), rfl, List.mem_singleton.2 rfl⟩
theorem sum_old : ∀ {B : List BE} {j : Nat} {e : BE} {c : C2} {n : Nat}, B[j]? = some e → sumB (B.set j (e.1, e.2.1 ++ [c], n)) = sumB B + 1
 | [], j, e, c, n, h => by simp at h
 | x :: r, 0, e, c, n, h => by
  cases h
  simp only [List.set_cons_zero, sumB, List.foldr_cons, List.length_append, List.length_singleton]
  omega
 | x :: r, j + 1, e, c, n, h => by
  have := sum_old (B := r) (j := j) (e := e) (c := c) (n := n) h
  simp only [List.set_cons_succ, sumB, List.foldr_cons] at this ⊢
  omega
theorem sum_new (B : List BE) (t c : C2) (n : Nat) : sumB (B ++ [(t, [c], n)]) = sumB B + 1 := by
 induction B with
 | nil => rfl
 | cons x r ih => simp only [List.cons_append, sumB, List.foldr_cons] at ih ⊢; omega
theorem len_sum {B : List BE} {e : BE} (h : e ∈ B) : e.2.1.length ≤ sumB B := by
 induction B with
 | nil => cases h
 | cons x r ih =>
  simp only [sumB, List.foldr_cons] at ih ⊢
  rcases List.mem_cons.1 h with rfl | h
  ·omega
  ·have := ih h; omega
theorem me_old {h : List AObj} {B : List BE} {t : C2} {e : BE} (hm : h[1]? = some (.map (kB B) (vB B))) (hk : t ∈ B.map (·.1)) (hj : B[(B.map (·.1)).idxOf t]? = some e) (he : e.1 = t) :
  mapEntryD TW h 204 (.map 1) (.v (eC t)) = some (.tuple [.osl e.2.2 0 e.2.1.length false, .v (.int .i64 ((B.map (·.1)).idxOf t : Nat))], h.set 1 (.map (kB B) (vB B))) := by
 have h1 : TW 204 = some tw204 := rfl
 have h2 : TW 150 = some tw150 := rfl
 have hf := keyFindC t (B.map (·.1)) 0
 rw [if_pos hk, Nat.zero_add] at hf
 have e1 : (vB B)[(B.map (·.1)).idxOf t]? = some (.osl e.2.2 0 e.2.1.length false) := by rw [List.getElem?_map, hj]; rfl
 have e2 : (kB B).set ((B.map (·.1)).idxOf t) (eC t) = kB B := set_self' (by rw [List.getElem?_map, List.getElem?_map, hj]; show some (eC e.1) = _; rw [he])
 simp only [mapEntryD, h1, show tw204.kind = .map 153 150 from rfl, hm, h2, keyC, if_true, hf, e1, Option.map_some, e2]
 rfl
theorem me_new {h : List AObj} {B : List BE} {t : C2} (hm : h[1]? = some (.map (kB B) (vB B))) (hk : t ∉ B.map (·.1)) :
  mapEntryD TW h 204 (.map 1) (.v (eC t)) = some (.v (.tuple [.sl .nil [], .int .i64 B.length]), h.set 1 (.map (kB B ++ [eC t]) (vB B ++ [nilD]))) := by
 have h1 : TW 204 = some tw204 := rfl
 have h2 : TW 150 = some tw150 := rfl
 have hf := keyFindC t (B.map (·.1)) 0
 rw [if_neg hk] at hf
 simp only [mapEntryD, h1, show tw204.kind = .map 153 150 from rfl, hm, h2, keyC, if_true, hf, List.length_map]
 rfl
theorem esM {h : List AObj} {ks : List V} {vs : List D} {x : D} {j : Nat} (hm : h[1]? = some (.map ks vs)) (hj : j < vs.length) : (entryStoreD h (.map 1) (.v (.int .i64 (j : Nat))) x).map (U, ·) = some (U, h.set 1 (.map ks (vs.set j x))) := by
 have hn : natOf (.v (.int .i64 (j : Nat))) = some j := by simp [natOf]
 simp only [entryStoreD, hn, hm, if_pos hj, Option.map_some]
theorem ldc {i : TI} {h : List AObj} {r off : Nat} {cs : List D} {d : D} (hr : h[r]? = some (.cells cs)) (hd : (cut cs off i.size).bind (mkOf i.kind.isAgg) = some d) : (loadD i h (.ptr r off)).map (·, h) = some (d, h) := by
 simp only [loadD, hr, hd, Option.map_some]
theorem stc {i : TI} {h : List AObj} {r off : Nat} {cs cs' : List D} {x : D} (hr : h[r]? = some (.cells cs)) (hs : (x.solid && x.cells.length == i.size) = true) (hc : splice cs off x.cells = some cs') : (storeD i h (.ptr r off) x).map (U, ·) = some (U, h.set r (.cells cs')) := by
 simp only [storeD, hs, if_true, hr, hc, Option.map_some]
set_option maxHeartbeats 4000000
structure J1 (mA mF : V) (m : D) (since : Nat) (seen : List Nat) (last : Nat) (G : List AObj) (B : List BE) (R : C2 → C2 → Prop) (N : Nat) : Prop where
 pr : G[0]? = some (.cells [.v mA, .v mF])
 it : G[2]? = some (.iter m since seen last)
 bk : BK G B
 mb : ∀ t c, (∃ x ∈ B, x.1 = t ∧ c ∈ x.2.1) ↔ R t c
 sm : sumB B ≤ N
theorem J1.app {mA mF m since seen last G B R N} (h : J1 mA mF m since seen last G B R N) (l : List AObj) : J1 mA mF m since seen last (G ++ l) B R N := ⟨app_keep h.pr, app_keep h.it, h.bk.app l, h.mb, h.sm⟩
theorem mid_set (A : List AObj) (x y : AObj) (l : List AObj) : (A ++ x :: l).set A.length y = A ++ y :: l := by rw [List.set_append_right _ _ (Nat.le_refl _), Nat.sub_self]; rfl
noncomputable abbrev C64 : Code := bodyOf Tryz.prog 64
noncomputable abbrev T1 : Code := cR (cR C64)
noncomputable abbrev LA : Code := cL (cR (cL T1))
noncomputable abbrev BA : Code := cL LA
noncomputable abbrev K1 : Code := cL (cR (cR BA))
noncomputable abbrev LB : Code := cL (cR (cR K1))
noncomputable abbrev BB : Code := cL LB
noncomputable abbrev I3 : Code := cL (cL (cR (cR BB)))
abbrev k1 : List Nat := [1, 2, 3, 17]
abbrev k1i : List Nat := [1, 2, 3, 17, 4, 23, 24, 25]
abbrev S1 (G : List AObj) : St := Sm 89 [(1, .ptr 0 0), (2, nilD), (3, .map 1), (17, .ptr 2 0)] G
abbrev S1i (g : Nat) (ls : List SP) (j : Int) (G : List AObj) : St := Sm 89 [(1, .ptr 0 0), (2, nilD), (3, .map 1), (17, .ptr 2 0), (4, .ptr g 0), (23, .v (eL eS ls)), (24, dI ls.length), (25, dI j)] G
abbrev cC (c : C2) : AObj := .cells [dI c.1, dI c.2]
abbrev cS (s : SP) : AObj := .cells [dI s.a, dI s.b, dI s.i, dI s.o, dI s.w]
abbrev S1s (g p : Nat) (ls : List SP) (j : Int) (G : List AObj) : St := Sm 89 [(1, .ptr 0 0), (2, nilD), (3, .map 1), (17, .ptr 2 0), (4, .ptr g 0), (7, .ptr p 0), (23, .v (eL eS ls)), (24, dI ls.length), (25, dI j)] G
abbrev H1 (G : List AObj) (c : C2) : List AObj := G ++ [AObj.row 2 [eC c]]
abbrev H2 (G : List AObj) (c : C2) (B : List BE) : List AObj := (H1 G c).set 1 (.map (kB B) (vB B))
abbrev H3 (G : List AObj) (c : C2) (B : List BE) (e : BE) : List AObj := (H2 G c B).set e.2.2 .dead ++ [AObj.row 2 ((e.2.1 ++ [c]).map eC)]
abbrev H4 (G : List AObj) (c : C2) (B : List BE) (e : BE) (j : Nat) : List AObj := List.set (H3 G c B e) 1 (.map (kB B) ((vB B).set j (.osl (H2 G c B).length 0 (e.2.1 ++ [c]).length false)))
abbrev N2 (G : List AObj) (c : C2) (B : List BE) (t : C2) : List AObj := (H1 G c).set 1 (.map (kB B ++ [eC t]) (vB B ++ [nilD]))
abbrev N3 (G : List AObj) (c : C2) (B : List BE) (t : C2) : List AObj := N2 G c B t ++ [AObj.row 2 [eC c]]
abbrev N4 (G : List AObj) (c : C2) (B : List BE) (t : C2) : List AObj := List.set (N3 G c B t) 1 (.map (kB B ++ [eC t]) ((vB B ++ [nilD]).set B.length (.osl (N2 G c B t).length 0 1 false)))
theorem put64 (n : Nat) {mA mF : V} {m : D} {since last N : Nat} {seen : List Nat} {G : List AObj} {B : List BE} {R : C2 → C2 → Prop} {c : C2} {g p j : Nat} {ls : List SP} {s : SP} (hJ : J1 mA mF m since seen last G B R N) (hg : G[g]? = some (cC c)) (hp : G[p]? = some (cS s)) (hN : N < 2199023255552) {Q : Post}
  (hQ : ∀ G' B' σ, J1 mA mF m since seen last G' B' (fun t x => R t x ∨ (t = s.to ∧ x = c)) (N + 1) → G'[g]? = some (cC c) → Abs.forget k1i σ = S1i g ls j G' → Q .normal σ) :
  Ht False Tryz.prog (cR I3) (S1s g p ls j G) Q := by
 have hxn := hxU n
 by_cases hk : s.to ∈ B.map (·.1)
 ·obtain ⟨e, hj, he⟩ := key_old hk
  have hle := len_sum (List.mem_of_getElem? hj)
  have hs := hJ.sm
  refine Ht.region hxn (by kernel_rfl) ?_
  refine Ops.seg' 2 2 (by kernel_rfl) ?_
  refine Ops.one' 3 (fun h0 e0 => ldc (i := tw153) (h := h0) (r := p) (off := 0) (cs := [dI s.a, dI s.b, dI s.i, dI s.o, dI s.w]) (d := .v (eC s.to)) (hq_of (g := G) (e0.trans (by kernel_rfl)) hp) rfl) (by kernel_rfl) (by kernel_rfl) ?_
  refine Ops.one' 4 (fun h0 e0 => ldc (i := tw153) (h := h0) (r := g) (off := 0) (cs := [dI c.1, dI c.2]) (d := .v (eC c)) (hq_of (g := G) (e0.trans (by kernel_rfl)) hg) rfl) (by kernel_rfl) (by kernel_rfl) ?_
  refine Ops.seg' 1 5 (by kernel_rfl) ?_
  refine Ops.one' 6 (fun h0 e0 => me_old (h := h0) (B := B) (t := s.to) (e := e) (hq_of (g := H1 G c) (e0.trans (by kernel_rfl)) (app_keep hJ.bk.map)) hk hj he) (by kernel_rfl) (by kernel_rfl) ?_
  refine Ops.seg' 1 7 (by kernel_rfl) ?_
  refine Ops.one' 8 (fun h0 e0 => ap_1 (h := h0) (q := e.2.2) (r := G.length) (T := e.2.1) (c := c) (hq_of (g := H2 G c B) (e0.trans (by kernel_rfl)) (set_keep (Ne.symm (hJ.bk.ne1 (List.mem_of_getElem? hj))) (app_keep (hJ.bk.row e (List.mem_of_getElem? hj))))) (hq_of (g := H2 G c B) (e0.trans (by kernel_rfl)) (set_keep (fun q => by have := lt_of_getElem? hJ.bk.map; omega) (mid_get G _ _))) (by omega)) (by kernel_rfl) (by kernel_rfl) ?_
  refine Ops.seg' 1 9 (by kernel_rfl) ?_
  refine Ops.one' 10 (fun h0 e0 => esM (h := h0) (ks := kB B) (vs := vB B) (x := .osl (H2 G c B).length 0 (e.2.1 ++ [c]).length false) (j := (B.map (·.1)).idxOf s.to) (hq_of (g := H3 G c B e) (e0.trans (by kernel_rfl)) (app_keep (set_keep (hJ.bk.ne1 (List.mem_of_getElem? hj)) (List.getElem?_set_self (lt_of_getElem? (app_keep (l := [AObj.row 2 [eC c]]) hJ.bk.map)))))) (by rw [List.length_map]; exact lt_of_getElem? hj)) (by kernel_rfl) (by kernel_rfl) ?_
  refine Ops.done (by kernel_rfl) ?_
  have b1 : BK (H1 G c) B := hJ.bk.app _
  have b2 : BK (H2 G c B) B := by rw [show H2 G c B = H1 G c from set_self' b1.map]; exact b1
  have b3 := b2.old c hj
  have hgm : (H1 G c)[g]? = some (cC c) := app_keep hg
  have hne : ∀ {q : Nat} {cs : List D}, (H1 G c)[q]? = some (.cells cs) → q ≠ 1 ∧ q ≠ e.2.2 := fun {q cs} h => ⟨(fun e' => by subst e'; rw [b1.map] at h; cases h), (fun e' => (b1.other h (fun l h => nomatch h)) e (List.mem_of_getElem? hj) (Eq.symm e'))⟩
  have keep : ∀ {q : Nat} {cs : List D}, (H1 G c)[q]? = some (.cells cs) → (H4 G c B e ((B.map (·.1)).idxOf s.to))[q]? = some (.cells cs) := fun {q cs} h => by
   obtain ⟨n1, n2⟩ := hne h
   exact set_keep (Ne.symm n1) (app_keep (set_keep (Ne.symm n2) (set_keep (Ne.symm n1) h)))
  have hit : (H1 G c)[2]? = some (.iter m since seen last) := app_keep hJ.it
  refine hQ _ _ _ ⟨keep (app_keep hJ.pr), ?_, b3, fun t x => ?_, ?_⟩ (keep hgm) (by kernel_rfl)
  ·exact set_keep (by decide) (app_keep (set_keep (fun e' => (b1.other hit (fun l h => nomatch h)) e (List.mem_of_getElem? hj) e') (set_keep (by decide) hit)))
  ·rw [mb_old hj, hJ.mb, he]
  ·rw [sum_old hj]; omega
 ·refine Ht.region hxn (by kernel_rfl) ?_
  refine Ops.seg' 2 2 (by kernel_rfl) ?_
  refine Ops.one' 3 (fun h0 e0 => ldc (i := tw153) (h := h0) (r := p) (off := 0) (cs := [dI s.a, dI s.b, dI s.i, dI s.o, dI s.w]) (d := .v (eC s.to)) (hq_of (g := G) (e0.trans (by kernel_rfl)) hp) rfl) (by kernel_rfl) (by kernel_rfl) ?_
  refine Ops.one' 4 (fun h0 e0 => ldc (i := tw153) (h := h0) (r := g) (off := 0) (cs := [dI c.1, dI c.2]) (d := .v (eC c)) (hq_of (g := G) (e0.trans (by kernel_rfl)) hg) rfl) (by kernel_rfl) (by kernel_rfl) ?_
  refine Ops.seg' 1 5 (by kernel_rfl) ?_
  refine Ops.one' 6 (fun h0 e0 => me_new (h := h0) (B := B) (t := s.to) (hq_of (g := H1 G c) (e0.trans (by kernel_rfl)) (app_keep hJ.bk.map)) hk) (by kernel_rfl) (by kernel_rfl) ?_
  refine Ops.seg' 1 7 (by kernel_rfl) ?_
  refine Ops.one' 8 (fun h0 e0 => ap_0 (h := h0) (r := G.length) (c := c) (hq_of (g := N2 G c B s.to) (e0.trans (by kernel_rfl)) (set_keep (fun q => by have := lt_of_getElem? hJ.bk.map; omega) (mid_get G _ _)))) (by kernel_rfl) (by kernel_rfl) ?_
  refine Ops.seg' 1 9 (by kernel_rfl) ?_
  refine Ops.one' 10 (fun h0 e0 => esM (h := h0) (ks := kB B ++ [eC s.to]) (vs := vB B ++ [nilD]) (x := .osl (N2 G c B s.to).length 0 1 false) (j := B.length) (hq_of (g := N3 G c B s.to) (e0.trans (by kernel_rfl)) (app_keep (List.getElem?_set_self (lt_of_getElem? (app_keep (l := [AObj.row 2 [eC c]]) hJ.bk.map))))) (by simp)) (by kernel_rfl) (by kernel_rfl) ?_
  refine Ops.done (by kernel_rfl) ?_
  have b1 : BK (H1 G c) B := hJ.bk.app _
  have b3 := b1.new c hk
  have keep : ∀ {q : Nat} {o : AObj}, q ≠ 1 → (H1 G c)[q]? = some o → (N4 G c B s.to)[q]? = some o := fun {q o} n1 h => set_keep (Ne.symm n1) (app_keep (set_keep (Ne.symm n1) h))
  refine hQ _ _ _ ⟨keep (by decide) (app_keep hJ.pr), keep (by decide) (app_keep hJ.it), b3, fun t x => ?_, ?_⟩ (keep (fun e' => ?_) (app_keep hg)) (by kernel_rfl)
  ·rw [mb_new, hJ.mb]
  ·rw [sum_new]; have := hJ.sm; omega
  ·subst e'; rw [hJ.bk.map] at hg; cases hg
theorem one64 (n : Nat) {mA mF : V} {m : D} {since last N : Nat} {seen : List Nat} {G : List AObj} {B : List BE} {R : C2 → C2 → Prop} {c : C2} {g j : Nat} {ls : List SP} {s : SP} (hs : ls[j]? = some s) (hJ : J1 mA mF m since seen last G B R N) (hg : G[g]? = some (cC c)) (hN : N < 2199023255552) {Q : Post}
  (hQ : ∀ G' B' σ, J1 mA mF m since seen last G' B' (fun t x => R t x ∨ (t = s.to ∧ x = c)) (N + 1) → G'[g]? = some (cC c) → Abs.forget k1i σ = S1i g ls j G' → Q .normal σ) :
  Ht False Tryz.prog I3 (S1i g ls j G) Q := by
 have hxn := hxU n
 have ix : idx ls (j : Int) = some s := by rw [idx_get]; exact hs
 refine Ht.seq (by kernel_rfl) ?_
 refine Ht.region hxn (by kernel_rfl) ?_
 refine Ops.one' 1 (fun h0 e0 => ix_r (T := TW) h0 154 156 5 .plain eS ls j s ix (by kernel_rfl) (by kernel_rfl) (fun _ => rfl)) (by kernel_rfl) (by kernel_rfl) ?_
 refine Ops.seg' 2 3 (by kernel_rfl) ?_
 refine Ops.one' 4 (fun h0 e0 => stc (i := tw156) (h := h0) (r := G.length) (off := 0) (cs := [dI 0, dI 0, dI 0, dI 0, dI 0]) (cs' := [dI s.a, dI s.b, dI s.i, dI s.o, dI s.w]) (x := .v (eS s)) (hq_of (g := G ++ [.cells [dI 0, dI 0, dI 0, dI 0, dI 0]]) (e0.trans (by kernel_rfl)) (mid_get G _ _)) rfl rfl) (by kernel_rfl) (by kernel_rfl) ?_
 refine Ops.done (by kernel_rfl) ?_
 refine seqH.n ?_
 refine Ht.forget [1, 2, 3, 17, 4, 7, 23, 24, 25] (Ht.st (σ' := S1s g G.length ls j (G ++ [cS s])) (by rw [← mid_set G (.cells [dI 0, dI 0, dI 0, dI 0, dI 0])]; kernel_rfl) ?_)
 exact put64 n (hJ.app [cS s]) (app_keep hg) (mid_get G _ _) hN hQ
set_option maxHeartbeats 4000000
theorem J1.congr {mA mF m since seen last G B R R' N N'} (h : J1 mA mF m since seen last G B R N) (hr : ∀ t c, R t c ↔ R' t c) (hn : N ≤ N') : J1 mA mF m since seen last G B R' N' := ⟨h.pr, h.it, h.bk, (fun t c => (h.mb t c).trans (hr t c)), Nat.le_trans h.sm hn⟩
theorem in64 (n : Nat) {mA mF : V} {m : D} {since last N : Nat} {seen : List Nat} {G : List AObj} {B : List BE} {R : C2 → C2 → Prop} {c : C2} {g : Nat} {ls : List SP} (hJ : J1 mA mF m since seen last G B R N) (hg : G[g]? = some (cC c)) (hN : N + ls.length < 2199023255552) {Q : Post}
  (hQ : ∀ G' B' σ, J1 mA mF m since seen last G' B' (fun t x => R t x ∨ (t ∈ ls.map SP.to ∧ x = c)) (N + ls.length) → Abs.forget k1 σ = S1 G' → Q (.exit 2) σ) :
  Ht False Tryz.prog LB (S1i g ls 0 G) Q := by
 have hxn := hxU n
 refine Ht.loop (fun k σ => ∃ (j : Nat) (G : List AObj) (B : List BE), j ≤ ls.length ∧ k = ls.length - j ∧ J1 mA mF m since seen last G B (fun t x => R t x ∨ (t ∈ (ls.take j).map SP.to ∧ x = c)) (N + j) ∧ G[g]? = some (cC c) ∧ Abs.forget k1i σ = S1i g ls j G)
  ls.length (by kernel_rfl) ⟨0, G, B, Nat.zero_le _, rfl, hJ.congr (fun t x => by simp) (Nat.le_refl _), hg, by kernel_rfl⟩ ?_
 clear hJ hg G B
 rintro k σ ⟨j, G, B, hjl, rfl, hJ, hg, hσ⟩
 refine Ht.forget k1i (Ht.st hσ ?_)
 clear hσ
 refine Ht.seq (by kernel_rfl) ?_
 refine Ht.region hxn (by kernel_rfl) ?_
 refine Ops.seg' 1 1 (by kernel_rfl) ?_
 refine Ops.done (by kernel_rfl) ?_
 refine seqH.n ?_
 refine Ht.seq (by kernel_rfl) ?_
 by_cases hlt : j < ls.length
 ·refine Ht.cond true (by kernel_rfl) (Eq.trans (b := D.v (V.bool (decide ((j : Int) < (ls.length : Int))))) (by kernel_rfl) (by rw [decide_eq_true (by omega)])) (fun _ => ?_) (fun h => nomatch h)
  refine Ht.skip (by kernel_rfl) ?_
  refine seqH.n ?_
  refine Ht.seq (by kernel_rfl) ?_
  refine Ht.block 3 (by kernel_rfl) ?_
  refine Ht.forget k1i (Ht.st (σ' := S1i g ls j G) (by kernel_rfl) ?_)
  refine one64 n (List.getElem?_eq_getElem hlt) hJ hg (by omega) fun G' B' σ' hJ' hg' hσ' => ?_
  refine blkH.n ?_
  refine seqH.n ?_
  refine Ht.forget k1i (Ht.st hσ' ?_)
  refine Ht.region hxn (by kernel_rfl) ?_
  refine Ops.seg' 2 2 (by kernel_rfl) ?_
  refine Ops.done (by kernel_rfl) ?_
  have hw : w64 ((j : Int) + 1) = ((j + 1 : Nat) : Int) := by rw [w64_id ⟨by omega, by omega⟩]; rfl
  refine ⟨ls.length - (j + 1), by omega, j + 1, G', B', hlt, rfl, hJ'.congr (fun t x => ?_) (by omega), hg', ?_⟩
  ·rw [List.take_add_one, List.getElem?_eq_getElem hlt, Option.toList_some, List.map_append, List.mem_append, List.map_singleton, List.mem_singleton]
   constructor
   ·rintro ((h | ⟨h, rfl⟩) | ⟨h, rfl⟩)
    ·exact .inl h
    ·exact .inr ⟨.inl h, rfl⟩
    ·exact .inr ⟨.inr h, rfl⟩
   ·rintro (h | ⟨h | h, rfl⟩)
    ·exact .inl (.inl h)
    ·exact .inl (.inr ⟨h, rfl⟩)
    ·exact .inr ⟨h, rfl⟩
  ·rw [← hw]; kernel_rfl
 ·refine Ht.cond false (by kernel_rfl) (Eq.trans (b := D.v (V.bool (decide ((j : Int) < (ls.length : Int))))) (by kernel_rfl) (by rw [decide_eq_false (by omega)])) (fun h => nomatch h) (fun _ => ?_)
  refine Ht.exit (id := 2) (by kernel_rfl) ?_
  have hj : j = ls.length := by omega
  subst hj
  rw [List.take_length] at hJ
  exact hQ G B _ hJ (by kernel_rfl)
theorem len_seen {n : Nat} {seen : List Nat} (h1 : seen.Nodup) (h2 : ∀ j ∈ seen, j < n) : seen.length ≤ n := by
 have hp : seen.Perm ((List.range n).filter fun j => decide (j ∈ seen)) := (List.perm_ext_iff_of_nodup h1 (List.nodup_range.filter _)).2 fun x => by
  simp only [List.mem_filter, List.mem_range, decide_eq_true_eq]
  exact ⟨fun h => ⟨h2 x h, h⟩, fun h => h.2⟩
 rw [hp.length_eq]
 exact Nat.le_trans (List.length_filter_le _ _) (by simp)
theorem nodup_snoc {α : Type} {seen : List α} {j : α} (h : seen.Nodup) (hj : j ∉ seen) : (seen ++ [j]).Nodup := by
 rw [List.nodup_append]
 exact ⟨h, by simp, fun a ha b hb e => by simp at hb; subst hb; exact hj (e ▸ ha)⟩
abbrev Arcs := List (C2 × List SP)
abbrev mArcs (A : Arcs) : V := .map (A.map fun e => eC e.1) (A.map fun e => eL eS e.2)
def edgesOf (A : Arcs) : Edges := A.map fun e => (e.1, e.2.map SP.to)
def RS (A : Arcs) (seen : List Nat) (t x : C2) : Prop := ∃ j ∈ seen, ∃ e, A[j]? = some e ∧ e.1 = x ∧ t ∈ e.2.map SP.to
theorem enA {h : List AObj} {q since j : Nat} {seen : List Nat} {A : Arcs} {e : C2 × List SP} (hq : h[q]? = some (.iter (.v (mArcs A)) since (seen ++ [j]) A.length)) (he : A[j]? = some e) : (entryD h (.ptr q 0)).map (·, h) = some (.v (.tuple [eC e.1, eL eS e.2]), h) := by
 have hk : mapKV h (.v (mArcs A)) = some (A.map fun e => eC e.1, (A.map fun e => eL eS e.2).map .v) := rfl
 have hn : isNilM (.v (mArcs A)) = some false := rfl
 simp only [entryD, hq, List.getLast?_append, List.getLast?_singleton, Option.some_or, hk, hn, List.length_map, if_true, List.getElem?_map, he, Option.map_some]
 rfl
theorem loopA (n : Nat) {mF : V} {A : Arcs} (h1 : A.length < 1048576) (h2 : ∀ e ∈ A, e.2.length < 1048576) {G : List AObj} (hJ : J1 (mArcs A) mF (.v (mArcs A)) A.length [] A.length G [] (fun _ _ => False) 0) {Q : Post}
  (hQ : ∀ G' B σ, BK G' B → G'[0]? = some (.cells [.v (mArcs A), .v mF]) → (∀ t c, (∃ x ∈ B, x.1 = t ∧ c ∈ x.2.1) ↔ ∃ e ∈ edgesOf A, e.1 = c ∧ t ∈ e.2) → sumB B ≤ 1099511627776 → Abs.forget k1 σ = S1 G' → Q (.exit 0) σ) :
  Ht False Tryz.prog LA (S1 G) Q := by
 have hxn := hxU n
 refine Ht.loop (fun k σ => ∃ (seen : List Nat) (G : List AObj) (B : List BE), k = A.length - seen.length ∧ seen.Nodup ∧ (∀ j ∈ seen, j < A.length) ∧ J1 (mArcs A) mF (.v (mArcs A)) A.length seen A.length G B (RS A seen) (seen.length * 1048576) ∧ Abs.forget k1 σ = S1 G)
  A.length (by kernel_rfl) ⟨[], G, [], rfl, List.nodup_nil, (fun j hj => nomatch hj), hJ.congr (fun t x => by simp [RS]) (Nat.le_refl _), by kernel_rfl⟩ ?_
 clear hJ G
 rintro k σ ⟨seen, G, B, rfl, hnd, hlt, hJ, hσ⟩
 refine Ht.forget k1 (Ht.st hσ ?_)
 clear hσ
 refine Ht.seq (by kernel_rfl) ?_
 refine Ht.next hxn (it := 17) (t := 18) (u := 19) (r := 2) (since := A.length) (last := A.length) (seen := seen) (m := .v (mArcs A)) (ks := A.map fun e => eC e.1) (vs := (A.map fun e => eL eS e.2).map .v) (by kernel_rfl) (by kernel_rfl) hJ.it rfl (by simp) (Nat.le_refl _) (by simp [Sm]) (fun hall => ?_) (fun j kk d hj hk hd => ?_)
 ·refine seqH.n ?_
  refine Ht.seq (by kernel_rfl) ?_
  refine Ht.cond false (by kernel_rfl) (by kernel_rfl) (fun h => nomatch h) (fun _ => ?_)
  refine Ht.exit (id := 0) (by kernel_rfl) ?_
  have hs := len_seen hnd hlt
  refine hQ G B _ hJ.bk hJ.pr (fun t c => ?_) ?_ (by kernel_rfl)
  ·rw [hJ.mb]
   constructor
   ·rintro ⟨j, hj, e, he, h3, h4⟩
    exact ⟨(e.1, e.2.map SP.to), List.mem_map.2 ⟨e, List.mem_of_getElem? he, rfl⟩, h3, h4⟩
   ·rintro ⟨e', he', h3, h4⟩
    obtain ⟨e, he, rfl⟩ := List.mem_map.1 he'
    obtain ⟨j, hj⟩ := List.mem_iff_getElem?.1 he
    exact ⟨j, hall j (by rw [List.length_map]; exact lt_of_getElem? hj), e, hj, h3, h4⟩
  ·refine Nat.le_trans hJ.sm (Nat.le_trans (Nat.mul_le_mul_right _ (Nat.le_trans hs (Nat.le_of_lt h1))) (by decide))
 ·obtain ⟨e, he, rfl⟩ : ∃ e, A[j]? = some e ∧ kk = eC e.1 := by
   rw [List.getElem?_map] at hk
   obtain ⟨e, he, e1⟩ := Option.map_eq_some_iff.1 hk
   exact ⟨e, he, e1.symm⟩
  have hjl := lt_of_getElem? he
  have hd' : d = .v (eL eS e.2) := by
   rw [List.getElem?_map, List.getElem?_map, he] at hd
   exact (Option.some.inj hd).symm
  subst hd'
  have hn2 := nodup_snoc hnd hj
  have hl2 : ∀ i ∈ seen ++ [j], i < A.length := fun i hi => by
   rcases List.mem_append.1 hi with h | h
   ·exact hlt i h
   ·simp at h; subst h; exact hjl
  have hlen := len_seen hn2 hl2
  rw [List.length_append, List.length_singleton] at hlen
  have he2 := h2 e (List.mem_of_getElem? he)
  refine seqH.n ?_
  refine Ht.seq (by kernel_rfl) ?_
  refine Ht.cond true (by kernel_rfl) (by kernel_rfl) (fun _ => ?_) (fun h => nomatch h)
  refine Ht.skip (by kernel_rfl) ?_
  refine seqH.n ?_
  have hJ1 : J1 (mArcs A) mF (.v (mArcs A)) A.length (seen ++ [j]) A.length (G.set 2 (.iter (.v (mArcs A)) A.length (seen ++ [j]) A.length)) B (RS A seen) (seen.length * 1048576) := ⟨set_keep (by decide) hJ.pr, List.getElem?_set_self (lt_of_getElem? hJ.it), hJ.bk.set _ (by decide) (hJ.bk.other hJ.it (fun l h => nomatch h)), hJ.mb, hJ.sm⟩
  refine Ht.forget [1, 2, 3, 17, 18] (Ht.st (σ' := Sm 89 [(1, .ptr 0 0), (2, nilD), (3, .map 1), (17, .ptr 2 0), (18, .v (.tuple [.bool true, eC e.1, eL eS e.2]))] (G.set 2 (.iter (.v (mArcs A)) A.length (seen ++ [j]) A.length))) (by rw [List.length_map]; kernel_rfl) ?_)
  generalize G.set 2 (.iter (.v (mArcs A)) A.length (seen ++ [j]) A.length) = K at hJ1
  refine Ht.block 1 (by kernel_rfl) ?_
  refine Ht.seq (by kernel_rfl) ?_
  refine Ht.region hxn (by kernel_rfl) ?_
  refine Ops.one' 1 (fun h0 e0 => enA (h := h0) (q := 2) (A := A) (e := e) (hq_of (g := K) (e0.trans (by kernel_rfl)) hJ1.it) he) (by kernel_rfl) (by kernel_rfl) ?_
  refine Ops.seg' 3 4 (by kernel_rfl) ?_
  refine Ops.one' 5 (fun h0 e0 => stc (i := tw153) (h := h0) (r := K.length) (off := 0) (cs := [dI 0, dI 0]) (cs' := [dI e.1.1, dI e.1.2]) (x := .v (eC e.1)) (hq_of (g := K ++ [.cells [dI 0, dI 0]]) (e0.trans (by kernel_rfl)) (mid_get K _ _)) rfl rfl) (by kernel_rfl) (by kernel_rfl) ?_
  refine Ops.seg' 1 6 (by kernel_rfl) ?_
  refine Ops.done (by kernel_rfl) ?_
  refine seqH.n ?_
  refine Ht.seq (by kernel_rfl) ?_
  refine Ht.forget [1, 2, 3, 4, 5, 17] (Ht.st (σ' := Sm 89 [(1, .ptr 0 0), (2, nilD), (3, .map 1), (4, .ptr K.length 0), (5, .v (eL eS e.2)), (17, .ptr 2 0)] (K ++ [cC e.1])) (by rw [← mid_set K (.cells [dI 0, dI 0])]; kernel_rfl) ?_)
  refine Ht.region hxn (by kernel_rfl) ?_
  refine Ops.seg' 1 1 (by kernel_rfl) ?_
  refine Ops.one' 2 (fun h0 e0 => len_r (T := TW) h0 154 156 .plain eS e.2 (by kernel_rfl)) (by kernel_rfl) (by kernel_rfl) ?_
  refine Ops.seg' 1 3 (by kernel_rfl) ?_
  refine Ops.done (by kernel_rfl) ?_
  refine seqH.n ?_
  refine Ht.block 2 (by kernel_rfl) ?_
  refine Ht.forget k1i (Ht.st (σ' := S1i K.length e.2 0 (K ++ [cC e.1])) (by kernel_rfl) ?_)
  refine in64 n (hJ1.app [cC e.1]) (mid_get K _ _) (by omega) fun G' B' σ' hJ' hσ' => ?_
  refine blkH.x ?_
  refine blkH.n ?_
  refine ⟨A.length - (seen ++ [j]).length, by rw [List.length_append, List.length_singleton]; omega, seen ++ [j], G', B', rfl, hn2, hl2, hJ'.congr (fun t x => ?_) ?_, hσ'⟩
  ·constructor
   ·rintro (⟨i, hi, h3⟩ | ⟨h3, rfl⟩)
    ·exact ⟨i, List.mem_append.2 (.inl hi), h3⟩
    ·exact ⟨j, List.mem_append.2 (.inr (List.mem_singleton.2 rfl)), e, he, rfl, h3⟩
   ·rintro ⟨i, hi, e', h3, h4, h5⟩
    rcases List.mem_append.1 hi with hi | hi
    ·exact .inl ⟨i, hi, e', h3, h4, h5⟩
    ·rw [List.mem_singleton] at hi
     subst hi
     rw [he] at h3
     cases h3
     exact .inr ⟨h5, h4.symm⟩
  ·rw [List.length_append, List.length_singleton, Nat.add_mul]; omega
set_option maxHeartbeats 4000000
noncomputable abbrev T2 : Code := cR (cR (cR T1))
noncomputable abbrev A2 : Code := cL T2
noncomputable abbrev LC : Code := cL (cR A2)
noncomputable abbrev B6 : Code := cL (cR T2)
noncomputable abbrev LD : Code := cL B6
noncomputable abbrev T4 : Code := cR (cR (cR T2))
noncomputable abbrev A4 : Code := cL T4
noncomputable abbrev LE : Code := cL (cR A4)
def TL (G : List AObj) (B : List BE) (d : D) (T : List C2) : Prop := (d = nilD ∧ T = []) ∨ ∃ r, d = .osl r 0 T.length false ∧ G[r]? = some (.row 2 (T.map eC)) ∧ ∀ e ∈ B, e.2.2 ≠ r
structure J2 (s : Nat) (G : List AObj) (B : List BE) (d : D) (T Sn : List C2) : Prop where
 bk : BK G B
 sn : G[s]? = some (.map (Sn.map eC) (Sn.map fun _ => dI 1))
 ne : s ≠ 1
 tl : TL G B d T
theorem J2.app {s G B d T Sn} (h : J2 s G B d T Sn) (l : List AObj) : J2 s (G ++ l) B d T Sn := ⟨h.bk.app l, app_keep h.sn, h.ne, by
 rcases h.tl with ⟨h1, h2⟩ | ⟨r, h1, h2, h3⟩
 ·exact .inl ⟨h1, h2⟩
 ·exact .inr ⟨r, h1, app_keep h2, h3⟩⟩
theorem BK.lt {G : List AObj} {B : List BE} (h : BK G B) : ∀ e ∈ B, e.2.2 ≠ G.length := fun e he e' => by
 have := lt_of_getElem? (h.row e he)
 omega
theorem J2.new {s G B d T Sn} (h : J2 s G B d T Sn) (T' : List C2) : J2 s (G ++ [AObj.row 2 (T'.map eC)]) B (.osl G.length 0 T'.length false) T' Sn :=
 ⟨h.bk.app _, app_keep h.sn, h.ne, .inr ⟨G.length, rfl, mid_get G _ _, h.bk.lt⟩⟩
theorem J2.grow {s G B T Sn r} (h : J2 s G B (.osl r 0 T.length false) T Sn) (hr : G[r]? = some (.row 2 (T.map eC))) (hB : ∀ e ∈ B, e.2.2 ≠ r) (T' : List C2) : J2 s (G.set r .dead ++ [AObj.row 2 (T'.map eC)]) B (.osl G.length 0 T'.length false) T' Sn := by
 have h1 : r ≠ 1 := fun e => by subst e; rw [h.bk.map] at hr; cases hr
 have h2 : r ≠ s := fun e => by subst e; rw [h.sn] at hr; cases hr
 have hb := h.bk.set .dead h1 hB
 have hl : (G.set r AObj.dead).length = G.length := List.length_set
 refine ⟨hb.app _, app_keep (set_keep h2 h.sn), h.ne, .inr ⟨G.length, rfl, ?_, h.bk.lt⟩⟩
 have := mid_get (G.set r .dead) (AObj.row 2 (T'.map eC)) []
 rwa [hl] at this
theorem grow_keep {G : List AObj} {r q : Nat} {T T' : List C2} {o : AObj} (hr : G[r]? = some (.row 2 (T.map eC))) (hq : G[q]? = some o) (ho : ∀ l, o ≠ .row 2 l) : (G.set r .dead ++ [AObj.row 2 (T'.map eC)])[q]? = some o :=
 app_keep (set_keep (fun e => by subst e; rw [hr] at hq; cases hq; exact ho _ rfl) hq)
abbrev k2 : List Nat := [2, 3, 8, 9, 42]
abbrev S2 (s q : Nat) (d : D) (G : List AObj) : St := Sm 89 [(2, nilD), (3, .map 1), (8, .map s), (9, d), (42, .ptr q 0)] G
abbrev k2c : List Nat := [2, 3, 8, 9, 10, 42]
abbrev S2c (s q g : Nat) (d : D) (G : List AObj) : St := Sm 89 [(2, nilD), (3, .map 1), (8, .map s), (9, d), (10, .ptr g 0), (42, .ptr q 0)] G
abbrev k3 : List Nat := [2, 3, 8, 9]
abbrev S3 (s : Nat) (d : D) (G : List AObj) : St := Sm 89 [(2, nilD), (3, .map 1), (8, .map s), (9, d)] G
abbrev mFin (F : List C2) (vs : List V) : V := .map (F.map eC) vs
theorem enF {h : List AObj} {q since j : Nat} {seen : List Nat} {F : List C2} {vs : List V} {c : C2} {v : V} (hq : h[q]? = some (.iter (.v (mFin F vs)) since (seen ++ [j]) F.length)) (hc : F[j]? = some c) (hv : vs[j]? = some v) : (entryD h (.ptr q 0)).map (·, h) = some (mkTuple [.v (eC c), .v v], h) := by
 have hk : mapKV h (.v (mFin F vs)) = some (F.map eC, vs.map .v) := rfl
 have hn : isNilM (.v (mFin F vs)) = some false := rfl
 simp only [entryD, hq, List.getLast?_append, List.getLast?_singleton, Option.some_or, hk, hn, List.length_map, if_true, List.getElem?_map, hc, hv, Option.map_some]
theorem putF (n : Nat) {s q g : Nat} {d : D} {G : List AObj} {B : List BE} {T Sn : List C2} {c : C2} {o : AObj} (hJ : J2 s G B d T Sn) (hg : G[g]? = some (cC c)) (hq : G[q]? = some o) (ho : ∀ l, o ≠ .row 2 l) (hT : T.length < 1048576) {Q : Post}
  (hQ : ∀ G' d' σ, J2 s G' B d' (T ++ [c]) Sn → G'[q]? = some o → Abs.forget k2 σ = S2 s q d' G' → Q .normal σ) :
  Ht False Tryz.prog (cR (cL (cR (cR (cL LC))))) (S2c s q g d G) Q := by
 have hxn := hxU n
 rcases hJ.tl with ⟨rfl, rfl⟩ | ⟨r, rfl, hr, hB⟩
 ·refine Ht.region hxn (by kernel_rfl) ?_
  refine Ops.seg' 1 1 (by kernel_rfl) ?_
  refine Ops.one' 2 (fun h0 e0 => ldc (i := tw153) (h := h0) (r := g) (off := 0) (cs := [dI c.1, dI c.2]) (d := .v (eC c)) (hq_of (g := G) (e0.trans (by kernel_rfl)) hg) rfl) (by kernel_rfl) (by kernel_rfl) ?_
  refine Ops.seg' 1 3 (by kernel_rfl) ?_
  refine Ops.one' 4 (fun h0 e0 => ap_0 (h := h0) (r := G.length) (c := c) (hq_of (g := H1 G c) (e0.trans (by kernel_rfl)) (mid_get G _ _))) (by kernel_rfl) (by kernel_rfl) ?_
  refine Ops.seg' 1 5 (by kernel_rfl) ?_
  refine Ops.done (by kernel_rfl) ?_
  exact hQ _ _ _ ((hJ.app [AObj.row 2 [eC c]]).new [c]) (app_keep (app_keep hq)) (by kernel_rfl)
 ·refine Ht.region hxn (by kernel_rfl) ?_
  refine Ops.seg' 1 1 (by kernel_rfl) ?_
  refine Ops.one' 2 (fun h0 e0 => ldc (i := tw153) (h := h0) (r := g) (off := 0) (cs := [dI c.1, dI c.2]) (d := .v (eC c)) (hq_of (g := G) (e0.trans (by kernel_rfl)) hg) rfl) (by kernel_rfl) (by kernel_rfl) ?_
  refine Ops.seg' 1 3 (by kernel_rfl) ?_
  refine Ops.one' 4 (fun h0 e0 => ap_1 (h := h0) (q := r) (r := G.length) (T := T) (c := c) (hq_of (g := H1 G c) (e0.trans (by kernel_rfl)) (app_keep hr)) (hq_of (g := H1 G c) (e0.trans (by kernel_rfl)) (mid_get G _ _)) (by omega)) (by kernel_rfl) (by kernel_rfl) ?_
  refine Ops.seg' 1 5 (by kernel_rfl) ?_
  refine Ops.done (by kernel_rfl) ?_
  exact hQ _ _ _ ((hJ.app [AObj.row 2 [eC c]]).grow (app_keep hr) hB (T ++ [c])) (grow_keep (T' := T ++ [c]) (app_keep hr) (app_keep hq) ho) (by kernel_rfl)
theorem fm_snoc {α : Type} {l : List α} {j : Nat} {c : α} (h : l[j]? = some c) (seen : List Nat) : (seen ++ [j]).filterMap (l[·]?) = seen.filterMap (l[·]?) ++ [c] := by simp [List.filterMap_append, h]
theorem loopF (n : Nat) {s q : Nat} {G : List AObj} {B : List BE} {F : List C2} {vs : List V} (hv : vs.length = F.length) (hF : F.length < 1048576) (hJ : J2 s G B nilD [] []) (hq : G[q]? = some (.iter (.v (mFin F vs)) F.length [] F.length)) {Q : Post}
  (hQ : ∀ G' d' T σ, J2 s G' B d' T [] → T.length ≤ F.length → (∀ c, c ∈ T ↔ c ∈ F) → Abs.forget k3 σ = S3 s d' G' → Q (.exit 4) σ) :
  Ht False Tryz.prog LC (S2 s q nilD G) Q := by
 have hxn := hxU n
 refine Ht.loop (fun k σ => ∃ (seen : List Nat) (G : List AObj) (d : D), k = F.length - seen.length ∧ seen.Nodup ∧ (∀ j ∈ seen, j < F.length) ∧ J2 s G B d (seen.filterMap (F[·]?)) [] ∧ G[q]? = some (.iter (.v (mFin F vs)) F.length seen F.length) ∧ Abs.forget k2 σ = S2 s q d G)
  F.length (by kernel_rfl) ⟨[], G, nilD, rfl, List.nodup_nil, (fun j hj => nomatch hj), hJ, hq, by kernel_rfl⟩ ?_
 clear hJ hq G
 rintro k σ ⟨seen, G, d, rfl, hnd, hlt, hJ, hit, hσ⟩
 refine Ht.forget k2 (Ht.st hσ ?_)
 clear hσ
 have hsl : (seen.filterMap (F[·]?)).length ≤ seen.length := List.length_filterMap_le _ _
 refine Ht.seq (by kernel_rfl) ?_
 refine Ht.next hxn (it := 42) (t := 43) (u := 44) (r := q) (since := F.length) (last := F.length) (seen := seen) (m := .v (mFin F vs)) (ks := F.map eC) (vs := vs.map .v) (by kernel_rfl) (by kernel_rfl) hit rfl (by simp) (Nat.le_refl _) (by simp [Sm]) (fun hall => ?_) (fun j kk dd hj hk hd => ?_)
 ·refine seqH.n ?_
  refine Ht.seq (by kernel_rfl) ?_
  refine Ht.cond false (by kernel_rfl) (by kernel_rfl) (fun h => nomatch h) (fun _ => ?_)
  refine Ht.exit (id := 4) (by kernel_rfl) ?_
  refine hQ G d _ _ hJ (Nat.le_trans hsl (len_seen hnd hlt)) (fun c => ?_) (by kernel_rfl)
  rw [List.mem_filterMap]
  constructor
  ·rintro ⟨j, hj, h⟩
   exact List.mem_of_getElem? h
  ·intro hc
   obtain ⟨j, hj⟩ := List.mem_iff_getElem?.1 hc
   exact ⟨j, hall j (by rw [List.length_map]; exact lt_of_getElem? hj), hj⟩
 ·obtain ⟨c, hc, rfl⟩ : ∃ c, F[j]? = some c ∧ kk = eC c := by
   rw [List.getElem?_map] at hk
   obtain ⟨e, he, e1⟩ := Option.map_eq_some_iff.1 hk
   exact ⟨e, he, e1.symm⟩
  have hjl := lt_of_getElem? hc
  obtain ⟨v, hvj, rfl⟩ : ∃ v, vs[j]? = some v ∧ dd = .v v := by
   rw [List.getElem?_map] at hd
   obtain ⟨e, he, e1⟩ := Option.map_eq_some_iff.1 hd
   exact ⟨e, he, e1.symm⟩
  have hn2 := nodup_snoc hnd hj
  have hl2 : ∀ i ∈ seen ++ [j], i < F.length := fun i hi => by
   rcases List.mem_append.1 hi with h | h
   ·exact hlt i h
   ·simp at h; subst h; exact hjl
  have hlen := len_seen hn2 hl2
  rw [List.length_append, List.length_singleton] at hlen
  refine seqH.n ?_
  refine Ht.seq (by kernel_rfl) ?_
  refine Ht.cond true (by kernel_rfl) (by kernel_rfl) (fun _ => ?_) (fun h => nomatch h)
  refine Ht.skip (by kernel_rfl) ?_
  refine seqH.n ?_
  have hq1 : q ≠ 1 := fun e => by subst e; rw [hJ.bk.map] at hit; cases hit
  have hqs : q ≠ s := fun e => by subst e; rw [hJ.sn] at hit; cases hit
  have hJ1 : J2 s (G.set q (.iter (.v (mFin F vs)) F.length (seen ++ [j]) F.length)) B d (seen.filterMap (F[·]?)) [] := ⟨hJ.bk.set _ hq1 (hJ.bk.other hit (fun l h => nomatch h)), set_keep hqs hJ.sn, hJ.ne, by
   rcases hJ.tl with ⟨g1, g2⟩ | ⟨r, g1, g2, g3⟩
   ·exact .inl ⟨g1, g2⟩
   ·exact .inr ⟨r, g1, set_keep (fun e => by subst e; rw [hit] at g2; cases g2) g2, g3⟩⟩
  have hi1 : (G.set q (.iter (.v (mFin F vs)) F.length (seen ++ [j]) F.length))[q]? = some (.iter (.v (mFin F vs)) F.length (seen ++ [j]) F.length) := List.getElem?_set_self (lt_of_getElem? hit)
  refine Ht.forget k2 (Ht.st (σ' := S2 s q d (G.set q (.iter (.v (mFin F vs)) F.length (seen ++ [j]) F.length))) (by rw [List.length_map]; kernel_rfl) ?_)
  generalize G.set q (.iter (.v (mFin F vs)) F.length (seen ++ [j]) F.length) = K at hJ1 hi1
  refine Ht.block 5 (by kernel_rfl) ?_
  refine Ht.seq (by kernel_rfl) ?_
  refine Ht.region hxn (by kernel_rfl) ?_
  refine Ops.one' 1 (fun h0 e0 => enF (h := h0) (q := q) (F := F) (vs := vs) (c := c) (v := v) (hq_of (g := K) (e0.trans (by kernel_rfl)) hi1) hc hvj) (by kernel_rfl) (by kernel_rfl) ?_
  refine Ops.seg' 2 3 (by kernel_rfl) ?_
  refine Ops.one' 4 (fun h0 e0 => stc (i := tw153) (h := h0) (r := K.length) (off := 0) (cs := [dI 0, dI 0]) (cs' := [dI c.1, dI c.2]) (x := .v (eC c)) (hq_of (g := K ++ [.cells [dI 0, dI 0]]) (e0.trans (by kernel_rfl)) (mid_get K _ _)) rfl rfl) (by kernel_rfl) (by kernel_rfl) ?_
  refine Ops.done (by kernel_rfl) ?_
  refine seqH.n ?_
  refine Ht.forget k2c (Ht.st (σ' := S2c s q K.length d (K ++ [cC c])) (by rw [← mid_set K (.cells [dI 0, dI 0])]; kernel_rfl) ?_)
  refine putF n (hJ1.app [cC c]) (mid_get K _ _) (app_keep hi1) (fun l h => nomatch h) (by omega) fun G' d' σ' hJ' hi' hσ' => ?_
  refine blkH.n ?_
  refine ⟨F.length - (seen ++ [j]).length, by rw [List.length_append, List.length_singleton]; omega, seen ++ [j], G', d', rfl, hn2, hl2, by rw [fm_snoc hc]; exact hJ', hi', hσ'⟩
set_option maxHeartbeats 4000000
def restB (Sn : List C2) (B : List BE) : Nat := B.foldr (fun e n => (if inC e.1 Sn then 0 else e.2.1.length) + n) 0
theorem rest_le (B : List BE) (Sn : List C2) (c : C2) : restB (Sn ++ [c]) B ≤ restB Sn B := by
 induction B with
 | nil => exact Nat.le_refl _
 | cons e r ih =>
  simp only [restB, List.foldr_cons] at ih ⊢
  have : (if inC e.1 (Sn ++ [c]) then 0 else e.2.1.length) ≤ (if inC e.1 Sn then 0 else e.2.1.length) := by
   by_cases h : inC e.1 Sn = true
   ·have h2 : inC e.1 (Sn ++ [c]) = true := inC_iff.2 (List.mem_append.2 (.inl (inC_iff.1 h)))
    simp [h, h2]
   ·simp only [h, Bool.false_eq_true, if_false]
    split <;> omega
  omega
theorem rest_in {B : List BE} {Sn : List C2} {e : BE} (he : e ∈ B) (hc : e.1 ∉ Sn) : restB (Sn ++ [e.1]) B + e.2.1.length ≤ restB Sn B := by
 induction B with
 | nil => cases he
 | cons x r ih =>
  have hle := rest_le r Sn e.1
  rcases List.mem_cons.1 he with rfl | he
  ·simp only [restB, List.foldr_cons] at hle ⊢
   have h1 : inC e.1 (Sn ++ [e.1]) = true := inC_iff.2 (List.mem_append.2 (.inr (List.mem_singleton.2 rfl)))
   have h2 : inC e.1 Sn = false := by
    cases h : inC e.1 Sn with
    | false => rfl
    | true => exact absurd (inC_iff.1 h) hc
   simp only [h1, h2, if_true, Bool.false_eq_true, if_false]
   omega
  ·have := ih he
   have h3 := rest_le [x] Sn e.1
   simp only [restB, List.foldr_cons, List.foldr_nil] at this h3 ⊢
   omega
theorem rest_sum (B : List BE) (Sn : List C2) : restB Sn B ≤ sumB B := by
 induction B with
 | nil => exact Nat.le_refl _
 | cons e r ih =>
  simp only [restB, sumB, List.foldr_cons] at ih ⊢
  split <;> omega
abbrev k3c : List Nat := [2, 3, 8, 9, 11]
abbrev S3c (s g : Nat) (d : D) (G : List AObj) : St := Sm 89 [(2, nilD), (3, .map 1), (8, .map s), (9, d), (11, .ptr g 0)] G
theorem lenT {G : List AObj} {B : List BE} {d : D} {T : List C2} (h : TL G B d T) (h0 : List AObj) : (lenD TW 150 d.unt).map (·, h0) = some (.v (.int .i64 (T.length : Int)), h0) := by
 rcases h with ⟨rfl, rfl⟩ | ⟨r, rfl, h2, h3⟩
 ·rfl
 ·rfl
theorem lkS {h : List AObj} {s : Nat} {Sn : List C2} {c : C2} (hs : h[s]? = some (.map (Sn.map eC) (Sn.map fun _ => dI 1))) : (lookupD TW h 145 (.map s) (.v (eC c)) false).map (·, h) = some (dI (if c ∈ Sn then 1 else 0), h) := by
 have h1 : TW 145 = some tw145 := rfl
 have h2 : TW 3 = some tw3 := rfl
 have hf := keyFindC c Sn 0
 by_cases hc : c ∈ Sn
 ·rw [if_pos hc, Nat.zero_add] at hf
  have e1 : (Sn.map fun _ => dI 1)[Sn.idxOf c]? = some (dI 1) := by rw [List.getElem?_map, List.getElem?_eq_getElem (List.idxOf_lt_length_of_mem hc)]; rfl
  simp only [lookupD, h1, show tw145.kind = .map 153 3 from rfl, h2, keyC, if_true, mapKV, hs, hf, e1, Option.map_some, if_pos hc]
  rfl
 ·rw [if_neg hc] at hf
  simp only [lookupD, h1, show tw145.kind = .map 153 3 from rfl, h2, keyC, if_true, mapKV, hs, hf, Option.map_some, if_neg hc]
  rfl
theorem muS {h : List AObj} {s : Nat} {Sn : List C2} {c : C2} (hs : h[s]? = some (.map (Sn.map eC) (Sn.map fun _ => dI 1))) (hc : c ∉ Sn) : (mapSetD TW h 145 (.map s) (.v (eC c)) (dI 1)).map (U, ·) = some (U, h.set s (.map ((Sn ++ [c]).map eC) ((Sn ++ [c]).map fun _ => dI 1))) := by
 have h1 : TW 145 = some tw145 := rfl
 have hf := keyFindC c Sn 0
 rw [if_neg hc] at hf
 simp only [mapSetD, h1, show tw145.kind = .map 153 3 from rfl, hs, keyC, if_true, hf, Option.map_some]
 simp
theorem lkB {h : List AObj} {B : List BE} {c : C2} (hm : h[1]? = some (.map (kB B) (vB B))) : ∃ x, (lookupD TW h 204 (.map 1) (.v (eC c)) false) = some x ∧ ((c ∉ B.map (·.1) ∧ x = nilD) ∨ ∃ e ∈ B, e.1 = c ∧ x = .osl e.2.2 0 e.2.1.length false) := by
 have h1 : TW 204 = some tw204 := rfl
 have h2 : TW 150 = some tw150 := rfl
 have hf := keyFindC c (B.map (·.1)) 0
 by_cases hk : c ∈ B.map (·.1)
 ·obtain ⟨e, hj, he⟩ := key_old hk
  rw [if_pos hk, Nat.zero_add] at hf
  have e1 : (vB B)[(B.map (·.1)).idxOf c]? = some (.osl e.2.2 0 e.2.1.length false) := by rw [List.getElem?_map, hj]; rfl
  exact ⟨.osl e.2.2 0 e.2.1.length false, by simp only [lookupD, h1, show tw204.kind = .map 153 150 from rfl, h2, keyC, if_true, mapKV, hm, hf, e1, Option.map_some, Bool.false_eq_true, if_false], .inr ⟨e, List.mem_of_getElem? hj, he, rfl⟩⟩
 ·rw [if_neg hk] at hf
  exact ⟨nilD, by simp only [lookupD, h1, show tw204.kind = .map 153 150 from rfl, h2, keyC, if_true, mapKV, hm, hf]; rfl, .inl ⟨hk, rfl⟩⟩
theorem sl3 {h : List AObj} {r : Nat} {T : List C2} {c : C2} (hr : h[r]? = some (.row 2 ((T ++ [c]).map eC))) : cutRowD TW h 150 (D.unt (.osl r 0 (T ++ [c]).length false)) none (some (dI (T.length : Nat))) none = some (.osl r 0 T.length false, h.set r (.row 2 (T.map eC))) := by
 have h1 : TW 150 = some tw150 := rfl
 have hn : natOf (dI (T.length : Nat)) = some T.length := by simp [natOf]
 simp only [D.unt, cutRowD, h1, show tw150.kind = .slice 153 from rfl, hn, hr]
 rw [if_pos ⟨rfl, by simp⟩]
 simp
theorem ix3 {h : List AObj} {r : Nat} {T : List C2} {c : C2} (hr : h[r]? = some (.row 2 ((T ++ [c]).map eC))) : (indexAddrH TW h 150 (D.unt (.osl r 0 (T ++ [c]).length false)) (dI (T.length : Nat))).map (·, h) = some (.eptr r T.length 0, h) := by
 have h1 : TW 150 = some tw150 := rfl
 have hn : natOf (dI (T.length : Nat)) = some T.length := by simp [natOf]
 simp only [D.unt, indexAddrH, h1, show tw150.kind = .slice 153 from rfl, hn, hr, show sizeT TW 153 = some 2 from rfl]
 rw [if_pos (by simp)]
 simp
theorem ld3 {h : List AObj} {r : Nat} {T : List C2} {c : C2} (hr : h[r]? = some (.row 2 ((T ++ [c]).map eC))) : (loadD tw153 h (.eptr r T.length 0)).map (·, h) = some (.v (eC c), h) := by
 have hx : ((T ++ [c]).map eC)[T.length]? = some (eC c) := by simp
 simp only [loadD, hr, hx]
 rfl
theorem more3 (n : Nat) {s g r : Nat} {G : List AObj} {B : List BE} {T Sn : List C2} {c : C2} (hJ : J2 s G B (.osl r 0 T.length false) T Sn) (hr : G[r]? = some (.row 2 (T.map eC))) (hB : ∀ e ∈ B, e.2.2 ≠ r) (hg : G[g]? = some (cC c)) (hT : T.length + sumB B < 8796093022207) {Q : Post}
  (hQ : ∀ G' d' T' σ, J2 s G' B d' T' Sn → ((c ∉ B.map (·.1) ∧ T' = T) ∨ ∃ e ∈ B, e.1 = c ∧ T' = T ++ e.2.1) → Abs.forget k3 σ = S3 s d' G' → Q .normal σ) :
  Ht False Tryz.prog (cR (cL (cR (cR (cR (cL (cR (cL LD)))))))) (S3c s g (.osl r 0 T.length false) G) Q := by
 have hxn := hxU n
 obtain ⟨x, hx, h4⟩ := lkB (c := c) hJ.bk.map
 have hel : ∃ xs : List C2, elemsOf 2 G x.unt = some (xs.map eC) ∧ xs.length ≤ sumB B ∧ ((c ∉ B.map (·.1) ∧ T ++ xs = T) ∨ ∃ e ∈ B, e.1 = c ∧ T ++ xs = T ++ e.2.1) := by
  rcases h4 with ⟨h5, rfl⟩ | ⟨e, he, h5, rfl⟩
  ·exact ⟨[], rfl, Nat.zero_le _, .inl ⟨h5, List.append_nil _⟩⟩
  ·exact ⟨e.2.1, el1 (hJ.bk.row e he), len_sum he, .inr ⟨e, he, h5, rfl⟩⟩
 obtain ⟨xs, h5, h6, h7⟩ := hel
 refine Ht.region hxn (by kernel_rfl) ?_
 refine Ops.seg' 2 2 (by kernel_rfl) ?_
 refine Ops.one' 3 (fun h0 e0 => ldc (i := tw153) (h := h0) (r := g) (off := 0) (cs := [dI c.1, dI c.2]) (d := .v (eC c)) (hq_of (g := G) (e0.trans (by kernel_rfl)) hg) rfl) (by kernel_rfl) (by kernel_rfl) ?_
 refine Ops.one' 4 (fun h0 e0 => (show (lookupD TW h0 204 (.map 1) (.v (eC c)) false).map (·, h0) = some (x, h0) by rw [e0.trans (show _ = G by kernel_rfl), hx]; rfl)) (by kernel_rfl) (by kernel_rfl) ?_
 refine Ops.one' 5 (fun h0 e0 => ap_o (h := h0) (q := r) (T := T) (xs := xs) (x := x) (hq_of (g := G) (e0.trans (by kernel_rfl)) hr) (by rw [e0.trans (show _ = G by kernel_rfl)]; exact h5) (by omega)) (by kernel_rfl) (by kernel_rfl) ?_
 refine Ops.seg' 1 6 (by kernel_rfl) ?_
 refine Ops.done (by kernel_rfl) ?_
 exact hQ _ _ _ _ (hJ.grow hr hB (T ++ xs)) h7 (by kernel_rfl)
set_option maxHeartbeats 4000000
structure ID (B : List BE) (F S Sn T : List C2) : Prop where
 nd : Sn.Nodup
 s1 : ∀ c ∈ Sn, c ∈ S
 s2 : ∀ c ∈ T, c ∈ S
 f : ∀ c ∈ F, c ∈ Sn ∨ c ∈ T
 b : ∀ e ∈ B, e.1 ∈ Sn → ∀ c ∈ e.2.1, c ∈ Sn ∨ c ∈ T
theorem ID.pop {B : List BE} {F S Sn T : List C2} {c : C2} (h : ID B F S Sn (T ++ [c])) (hc : c ∈ Sn) : ID B F S Sn T := by
 have hx : ∀ x, x ∈ Sn ∨ x ∈ T ++ [c] → x ∈ Sn ∨ x ∈ T := by
  rintro x (hx | hx)
  ·exact .inl hx
  ·rcases List.mem_append.1 hx with hx | hx
   ·exact .inr hx
   ·rw [List.mem_singleton] at hx; subst hx; exact .inl hc
 exact ⟨h.nd, h.s1, (fun x hx => h.s2 x (List.mem_append.2 (.inl hx))), (fun x hx' => hx x (h.f x hx')), (fun e he h1 x hx' => hx x (h.b e he h1 x hx'))⟩
theorem ID.push {B : List BE} {F S Sn T T' : List C2} {c : C2} (hkd : (B.map (·.1)).Nodup) (hS : ∀ e ∈ B, e.1 ∈ S → ∀ x ∈ e.2.1, x ∈ S) (h : ID B F S Sn (T ++ [c])) (hc : c ∉ Sn) (ht : (c ∉ B.map (·.1) ∧ T' = T) ∨ ∃ e ∈ B, e.1 = c ∧ T' = T ++ e.2.1) : ID B F S (Sn ++ [c]) T' := by
 have hcS : c ∈ S := h.s2 c (List.mem_append.2 (.inr (List.mem_singleton.2 rfl)))
 have hT : ∀ x ∈ T, x ∈ T' := by
  rcases ht with ⟨_, rfl⟩ | ⟨e, he, h1, rfl⟩
  ·exact fun x hx => hx
  ·exact fun x hx => List.mem_append.2 (.inl hx)
 have hx : ∀ x, x ∈ Sn ∨ x ∈ T ++ [c] → x ∈ Sn ++ [c] ∨ x ∈ T' := by
  rintro x (hx | hx)
  ·exact .inl (List.mem_append.2 (.inl hx))
  ·rcases List.mem_append.1 hx with hx | hx
   ·exact .inr (hT x hx)
   ·exact .inl (List.mem_append.2 (.inr hx))
 refine ⟨nodup_snoc h.nd hc, fun x hx' => ?_, fun x hx' => ?_, (fun x hx' => hx x (h.f x hx')), fun e he h1 x hx' => ?_⟩
 ·rcases List.mem_append.1 hx' with g | g
  ·exact h.s1 x g
  ·rw [List.mem_singleton] at g; subst g; exact hcS
 ·rcases ht with ⟨_, rfl⟩ | ⟨e, he, h1, rfl⟩
  ·exact h.s2 x (List.mem_append.2 (.inl hx'))
  ·rcases List.mem_append.1 hx' with g | g
   ·exact h.s2 x (List.mem_append.2 (.inl g))
   ·exact hS e he (h1 ▸ hcS) x g
 ·rcases List.mem_append.1 h1 with g | g
  ·exact hx x (h.b e he g x hx')
  ·rw [List.mem_singleton] at g
   rcases ht with ⟨h2, _⟩ | ⟨e', he', h2, rfl⟩
   ·exact absurd (List.mem_map.2 ⟨e, he, g⟩) h2
   ·have : e = e' := by
     obtain ⟨i, hi⟩ := List.mem_iff_getElem?.1 he
     obtain ⟨j, hj⟩ := List.mem_iff_getElem?.1 he'
     have il := lt_of_getElem? hi
     have jl := lt_of_getElem? hj
     have e1 : B[i] = e := by rw [List.getElem?_eq_getElem il] at hi; exact Option.some.inj hi
     have e2 : B[j] = e' := by rw [List.getElem?_eq_getElem jl] at hj; exact Option.some.inj hj
     have hp := List.pairwise_iff_getElem.1 hkd
     rcases Nat.lt_trichotomy i j with g1 | g1 | g1
     ·exact (hp i j (by simpa using il) (by simpa using jl) g1 (by simp only [List.getElem_map, e1, e2]; exact g.trans h2.symm)).elim
     ·subst g1; rw [← e1, ← e2]
     ·exact (hp j i (by simpa using jl) (by simpa using il) g1 (by simp only [List.getElem_map, e1, e2]; exact h2.trans g.symm)).elim
    subst this
    exact .inr (List.mem_append.2 (.inr hx'))
theorem snoc_of {α : Type} {l : List α} (h : 0 < l.length) : ∃ T c, l = T ++ [c] := by
 refine ⟨l.dropLast, l.getLast (fun e => by subst e; simp at h), (List.dropLast_concat_getLast _).symm⟩
theorem loopD (n : Nat) {s : Nat} {G : List AObj} {B : List BE} {d : D} {F S T : List C2} (hS : ∀ e ∈ B, e.1 ∈ S → ∀ x ∈ e.2.1, x ∈ S) (hJ : J2 s G B d T []) (hI : ID B F S [] T) (hT : T.length < 1048576) (hB : sumB B ≤ 1099511627776) {Q : Post}
  (hQ : ∀ G' Sn σ, G'[s]? = some (.map (Sn.map eC) (Sn.map fun _ => dI 1)) → ID B F S Sn [] → Abs.forget [2, 8] σ = Sm 89 [(2, nilD), (8, .map s)] G' → Q (.exit 6) σ) :
  Ht False Tryz.prog LD (S3 s d G) Q := by
 have hxn := hxU n
 refine Ht.loop (fun k σ => ∃ (G : List AObj) (d : D) (Sn T : List C2), k = T.length + restB Sn B ∧ T.length + restB Sn B < 1099512676352 ∧ J2 s G B d T Sn ∧ ID B F S Sn T ∧ Abs.forget k3 σ = S3 s d G)
  (T.length + restB [] B) (by kernel_rfl) ⟨G, d, [], T, rfl, by have := rest_sum B []; omega, hJ, hI, by kernel_rfl⟩ ?_
 clear hJ hI hT G d T
 rintro k σ ⟨G, d, Sn, T, rfl, hM, hJ, hI, hσ⟩
 refine Ht.forget k3 (Ht.st hσ ?_)
 clear hσ
 refine Ht.seq (by kernel_rfl) ?_
 refine Ht.seq (by kernel_rfl) ?_
 refine Ht.region hxn (by kernel_rfl) ?_
 refine Ops.seg' 1 1 (by kernel_rfl) ?_
 refine Ops.one' 2 (fun h0 e0 => lenT hJ.tl h0) (by kernel_rfl) (by kernel_rfl) ?_
 refine Ops.seg' 1 3 (by kernel_rfl) ?_
 refine Ops.done (by kernel_rfl) ?_
 refine seqH.n ?_
 by_cases hlt : 0 < T.length
 ·refine Ht.cond true (by kernel_rfl) (Eq.trans (b := D.v (V.bool (decide ((T.length : Int) > 0)))) (by kernel_rfl) (by rw [decide_eq_true (by omega)])) (fun _ => ?_) (fun h => nomatch h)
  refine Ht.skip (by kernel_rfl) ?_
  refine seqH.n ?_
  refine Ht.forget k3 (Ht.st (σ' := S3 s d G) (by kernel_rfl) ?_)
  obtain ⟨T, c, rfl⟩ := snoc_of hlt
  have hl : (T ++ [c]).length = T.length + 1 := by simp
  have hw : w64 (((T ++ [c]).length : Int) - 1) = (T.length : Nat) := by rw [w64_id ⟨by omega, by omega⟩]; omega
  obtain ⟨r, rfl, hr, hB'⟩ : ∃ r, d = .osl r 0 (T ++ [c]).length false ∧ G[r]? = some (.row 2 ((T ++ [c]).map eC)) ∧ ∀ e ∈ B, e.2.2 ≠ r := by
   rcases hJ.tl with ⟨_, h⟩ | h
   ·simp at h
   ·exact h
  refine Ht.block 7 (by kernel_rfl) ?_
  refine Ht.seq (by kernel_rfl) ?_
  refine Ht.region hxn (by kernel_rfl) ?_
  refine Ops.seg' 2 2 (by kernel_rfl) ?_
  refine Ops.one' 3 (fun h0 e0 => lenT hJ.tl h0) (by kernel_rfl) (by kernel_rfl) ?_
  refine Ops.one' 4 (fun h0 e0 => (show _ = some (dI (T.length : Nat), h0) from congrArg (fun z => some (dI z, h0)) hw)) (by kernel_rfl) (by kernel_rfl) ?_
  refine Ops.one' 5 (fun h0 e0 => ix3 (h := h0) (r := r) (T := T) (c := c) (hq_of (g := G) (e0.trans (by kernel_rfl)) hr)) (by kernel_rfl) (by kernel_rfl) ?_
  refine Ops.one' 6 (fun h0 e0 => ld3 (h := h0) (r := r) (T := T) (c := c) (hq_of (g := G) (e0.trans (by kernel_rfl)) hr)) (by kernel_rfl) (by kernel_rfl) ?_
  refine Ops.seg' 1 7 (by kernel_rfl) ?_
  refine Ops.one' 8 (fun h0 e0 => stc (i := tw153) (h := h0) (r := G.length) (off := 0) (cs := [dI 0, dI 0]) (cs' := [dI c.1, dI c.2]) (x := .v (eC c)) (hq_of (g := G ++ [.cells [dI 0, dI 0]]) (e0.trans (by kernel_rfl)) (mid_get G _ _)) rfl rfl) (by kernel_rfl) (by kernel_rfl) ?_
  refine Ops.done (by kernel_rfl) ?_
  refine seqH.n ?_
  refine Ht.forget k3c (Ht.st (σ' := S3c s G.length (.osl r 0 (T ++ [c]).length false) (G ++ [cC c])) (by rw [← mid_set G (.cells [dI 0, dI 0])]; kernel_rfl) ?_)
  have hJ1 := hJ.app [cC c]
  have hg1 : (G ++ [cC c])[G.length]? = some (cC c) := mid_get G _ _
  have hr1 : (G ++ [cC c])[r]? = some (.row 2 ((T ++ [c]).map eC)) := app_keep hr
  generalize G ++ [cC c] = K at hJ1 hg1 hr1
  generalize G.length = g at hg1
  refine Ht.seq (by kernel_rfl) ?_
  refine Ht.region hxn (by kernel_rfl) ?_
  refine Ops.seg' 2 2 (by kernel_rfl) ?_
  refine Ops.one' 3 (fun h0 e0 => lenT hJ1.tl h0) (by kernel_rfl) (by kernel_rfl) ?_
  refine Ops.one' 4 (fun h0 e0 => (show _ = some (dI (T.length : Nat), h0) from congrArg (fun z => some (dI z, h0)) hw)) (by kernel_rfl) (by kernel_rfl) ?_
  refine Ops.one' 5 (fun h0 e0 => sl3 (h := h0) (r := r) (T := T) (c := c) (hq_of (g := K) (e0.trans (by kernel_rfl)) hr1)) (by kernel_rfl) (by kernel_rfl) ?_
  refine Ops.seg' 1 6 (by kernel_rfl) ?_
  refine Ops.done (by kernel_rfl) ?_
  refine seqH.n ?_
  refine Ht.forget k3c (Ht.st (σ' := S3c s g (.osl r 0 T.length false) (K.set r (.row 2 (T.map eC)))) (by kernel_rfl) ?_)
  have hn1 : r ≠ 1 := fun e => by subst e; rw [hJ1.bk.map] at hr1; cases hr1
  have hns : r ≠ s := fun e => by subst e; rw [hJ1.sn] at hr1; cases hr1
  have hng : r ≠ g := fun e => by subst e; rw [hg1] at hr1; cases hr1
  have hr2 : (K.set r (.row 2 (T.map eC)))[r]? = some (.row 2 (T.map eC)) := List.getElem?_set_self (lt_of_getElem? hr1)
  have hJ2 : J2 s (K.set r (.row 2 (T.map eC))) B (.osl r 0 T.length false) T Sn := ⟨hJ1.bk.set _ hn1 hB', set_keep hns hJ1.sn, hJ1.ne, .inr ⟨r, rfl, hr2, hB'⟩⟩
  have hg2 : (K.set r (.row 2 (T.map eC)))[g]? = some (cC c) := set_keep hng hg1
  generalize K.set r (.row 2 (T.map eC)) = L at hJ2 hg2 hr2
  refine Ht.seq (by kernel_rfl) ?_
  refine Ht.region hxn (by kernel_rfl) ?_
  refine Ops.seg' 1 1 (by kernel_rfl) ?_
  refine Ops.one' 2 (fun h0 e0 => ldc (i := tw153) (h := h0) (r := g) (off := 0) (cs := [dI c.1, dI c.2]) (d := .v (eC c)) (hq_of (g := L) (e0.trans (by kernel_rfl)) hg2) rfl) (by kernel_rfl) (by kernel_rfl) ?_
  refine Ops.one' 3 (fun h0 e0 => lkS (h := h0) (s := s) (Sn := Sn) (c := c) (hq_of (g := L) (e0.trans (by kernel_rfl)) hJ2.sn)) (by kernel_rfl) (by kernel_rfl) ?_
  refine Ops.seg' 1 4 (by kernel_rfl) ?_
  refine Ops.done (by kernel_rfl) ?_
  refine seqH.n ?_
  by_cases hc : c ∈ Sn
  ·refine Ht.cond false (by kernel_rfl) (Eq.trans (b := D.v (V.bool (decide ((if c ∈ Sn then (1 : Int) else 0) = 0)))) (by kernel_rfl) (by rw [if_pos hc]; rfl)) (fun h => nomatch h) (fun _ => ?_)
   refine Ht.skip (by kernel_rfl) ?_
   refine blkH.n ?_
   exact ⟨T.length + restB Sn B, by rw [hl]; omega, L, _, Sn, T, rfl, by omega, hJ2, hI.pop hc, by kernel_rfl⟩
  ·refine Ht.cond true (by kernel_rfl) (Eq.trans (b := D.v (V.bool (decide ((if c ∈ Sn then (1 : Int) else 0) = 0)))) (by kernel_rfl) (by rw [if_neg hc]; rfl)) (fun _ => ?_) (fun h => nomatch h)
   refine Ht.seq (by kernel_rfl) ?_
   refine Ht.region hxn (by kernel_rfl) ?_
   refine Ops.seg' 1 1 (by kernel_rfl) ?_
   refine Ops.one' 2 (fun h0 e0 => ldc (i := tw153) (h := h0) (r := g) (off := 0) (cs := [dI c.1, dI c.2]) (d := .v (eC c)) (hq_of (g := L) (e0.trans (by kernel_rfl)) hg2) rfl) (by kernel_rfl) (by kernel_rfl) ?_
   refine Ops.one' 3 (fun h0 e0 => muS (h := h0) (s := s) (Sn := Sn) (c := c) (hq_of (g := L) (e0.trans (by kernel_rfl)) hJ2.sn) hc) (by kernel_rfl) (by kernel_rfl) ?_
   refine Ops.done (by kernel_rfl) ?_
   refine seqH.n ?_
   have hsg : s ≠ g := fun e => by subst e; rw [hJ2.sn] at hg2; cases hg2
   have hJ3 : J2 s (L.set s (.map ((Sn ++ [c]).map eC) ((Sn ++ [c]).map fun _ => dI 1))) B (.osl r 0 T.length false) T (Sn ++ [c]) := ⟨hJ2.bk.set _ hJ2.ne (hJ2.bk.other hJ2.sn (fun l h => nomatch h)), List.getElem?_set_self (lt_of_getElem? hJ2.sn), hJ2.ne, .inr ⟨r, rfl, set_keep (Ne.symm hns) hr2, hB'⟩⟩
   have hg3 : (L.set s (.map ((Sn ++ [c]).map eC) ((Sn ++ [c]).map fun _ => dI 1)))[g]? = some (cC c) := set_keep hsg hg2
   have hr3 : (L.set s (.map ((Sn ++ [c]).map eC) ((Sn ++ [c]).map fun _ => dI 1)))[r]? = some (.row 2 (T.map eC)) := set_keep (Ne.symm hns) hr2
   refine Ht.forget k3c (Ht.st (σ' := S3c s g (.osl r 0 T.length false) (L.set s (.map ((Sn ++ [c]).map eC) ((Sn ++ [c]).map fun _ => dI 1)))) (by kernel_rfl) ?_)
   refine more3 n hJ3 hr3 hB' hg3 (by omega) fun G' d' T' σ' hJ' hT' hσ' => ?_
   refine blkH.n ?_
   have hI' := hI.push hJ.bk.kd hS hc hT'
   have hlt' : T'.length + restB (Sn ++ [c]) B < (T ++ [c]).length + restB Sn B := by
    rw [hl]
    rcases hT' with ⟨_, rfl⟩ | ⟨e, he, h1, rfl⟩
    ·have := rest_le B Sn c; omega
    ·subst h1
     have := rest_in he hc
     rw [List.length_append]
     omega
   exact ⟨_, hlt', G', d', Sn ++ [c], T', rfl, by omega, hJ', hI', hσ'⟩
 ·refine Ht.cond false (by kernel_rfl) (Eq.trans (b := D.v (V.bool (decide ((T.length : Int) > 0)))) (by kernel_rfl) (by rw [decide_eq_false (by omega)])) (fun h => nomatch h) (fun _ => ?_)
  refine Ht.exit (id := 6) (by kernel_rfl) ?_
  have hT : T = [] := List.eq_nil_of_length_eq_zero (by omega)
  subst hT
  exact seqH.x (hQ G Sn _ hJ.sn hI (by kernel_rfl))
set_option maxHeartbeats 4000000
abbrev k4 : List Nat := [2, 12, 77]
abbrev S4 (q : Nat) (d : D) (G : List AObj) : St := Sm 89 [(2, nilD), (12, d), (77, .ptr q 0)] G
abbrev k4c : List Nat := [2, 12, 13, 77]
abbrev S4c (q g : Nat) (d : D) (G : List AObj) : St := Sm 89 [(2, nilD), (12, d), (13, .ptr g 0), (77, .ptr q 0)] G
def OL (G : List AObj) (d : D) (T : List C2) : Prop := (d = nilD ∧ T = []) ∨ ∃ r, d = .osl r 0 T.length false ∧ G[r]? = some (.row 2 (T.map eC)) ∧ T ≠ []
theorem OL.app {G d T} (h : OL G d T) (l : List AObj) : OL (G ++ l) d T := by
 rcases h with ⟨h1, h2⟩ | ⟨r, h1, h2, h3⟩
 ·exact .inl ⟨h1, h2⟩
 ·exact .inr ⟨r, h1, app_keep h2, h3⟩
theorem enS {h : List AObj} {q s since j : Nat} {seen : List Nat} {Sn : List C2} {c : C2} (hs : h[s]? = some (.map (Sn.map eC) (Sn.map fun _ => dI 1))) (hq : h[q]? = some (.iter (.map s) since (seen ++ [j]) Sn.length)) (hc : Sn[j]? = some c) : (entryD h (.ptr q 0)).map (·, h) = some (.v (.tuple [eC c, .int .i64 1]), h) := by
 have hk : mapKV h (.map s) = some (Sn.map eC, Sn.map fun _ => dI 1) := by simp only [mapKV, hs]
 have hn : isNilM (.map s) = some false := rfl
 simp only [entryD, hq, List.getLast?_append, List.getLast?_singleton, Option.some_or, hk, hn, List.length_map, if_true, List.getElem?_map, hc, Option.map_some]
 rfl
theorem putS (n : Nat) {q g : Nat} {d : D} {G : List AObj} {T : List C2} {c : C2} (hO : OL G d T) (hg : G[g]? = some (cC c)) (hT : T.length < 4398046511104) {Q : Post}
  (hQ : ∀ G' d' σ, OL G' d' (T ++ [c]) → (∀ (q : Nat) (o : AObj), G[q]? = some o → (∀ l, o ≠ AObj.row 2 l) → G'[q]? = some o) → Abs.forget k4 σ = S4 q d' G' → Q .normal σ) :
  Ht False Tryz.prog (cR (cL (cR (cR (cL LE))))) (S4c q g d G) Q := by
 have hxn := hxU n
 rcases hO with ⟨rfl, rfl⟩ | ⟨r, rfl, hr, _⟩
 ·refine Ht.region hxn (by kernel_rfl) ?_
  refine Ops.seg' 1 1 (by kernel_rfl) ?_
  refine Ops.one' 2 (fun h0 e0 => ldc (i := tw153) (h := h0) (r := g) (off := 0) (cs := [dI c.1, dI c.2]) (d := .v (eC c)) (hq_of (g := G) (e0.trans (by kernel_rfl)) hg) rfl) (by kernel_rfl) (by kernel_rfl) ?_
  refine Ops.seg' 1 3 (by kernel_rfl) ?_
  refine Ops.one' 4 (fun h0 e0 => ap_0 (h := h0) (r := G.length) (c := c) (hq_of (g := H1 G c) (e0.trans (by kernel_rfl)) (mid_get G _ _))) (by kernel_rfl) (by kernel_rfl) ?_
  refine Ops.seg' 1 5 (by kernel_rfl) ?_
  refine Ops.done (by kernel_rfl) ?_
  exact hQ (H1 G c ++ [AObj.row 2 [eC c]]) (.osl (H1 G c).length 0 1 false) _ (.inr ⟨(H1 G c).length, rfl, mid_get _ _ _, by simp⟩) (fun q o hq _ => app_keep (app_keep hq)) (by kernel_rfl)
 ·refine Ht.region hxn (by kernel_rfl) ?_
  refine Ops.seg' 1 1 (by kernel_rfl) ?_
  refine Ops.one' 2 (fun h0 e0 => ldc (i := tw153) (h := h0) (r := g) (off := 0) (cs := [dI c.1, dI c.2]) (d := .v (eC c)) (hq_of (g := G) (e0.trans (by kernel_rfl)) hg) rfl) (by kernel_rfl) (by kernel_rfl) ?_
  refine Ops.seg' 1 3 (by kernel_rfl) ?_
  refine Ops.one' 4 (fun h0 e0 => ap_1 (h := h0) (q := r) (r := G.length) (T := T) (c := c) (hq_of (g := H1 G c) (e0.trans (by kernel_rfl)) (app_keep hr)) (hq_of (g := H1 G c) (e0.trans (by kernel_rfl)) (mid_get G _ _)) (by omega)) (by kernel_rfl) (by kernel_rfl) ?_
  refine Ops.seg' 1 5 (by kernel_rfl) ?_
  refine Ops.done (by kernel_rfl) ?_
  refine hQ ((H1 G c).set r .dead ++ [AObj.row 2 ((T ++ [c]).map eC)]) (.osl (H1 G c).length 0 (T ++ [c]).length false) _ (.inr ⟨(H1 G c).length, rfl, ?_, by simp⟩) (fun q o hq ho => grow_keep (T' := T ++ [c]) (app_keep hr) (app_keep hq) ho) (by kernel_rfl)
  have := mid_get ((H1 G c).set r .dead) (AObj.row 2 ((T ++ [c]).map eC)) []
  rwa [List.length_set] at this
theorem fm_all {α : Type} (l : List α) {seen : List Nat} (h1 : seen.Nodup) (h2 : ∀ j ∈ seen, j < l.length) (h3 : ∀ j, j < l.length → j ∈ seen) : (seen.filterMap (l[·]?)).Perm l := by
 have hp : seen.Perm (List.range l.length) := (List.perm_ext_iff_of_nodup h1 List.nodup_range).2 fun j => by
  rw [List.mem_range]
  exact ⟨h2 j, h3 j⟩
 have h4 := hp.filterMap (l[·]?)
 have h5 : (List.range l.length).filterMap (l[·]?) = l := by
  clear h1 h2 h3 hp h4
  induction l with
  | nil => rfl
  | cons a r ih =>
   rw [List.length_cons, List.range_succ_eq_map, List.filterMap_cons, List.filterMap_map]
   show a :: List.filterMap (fun x => r[x]?) (List.range r.length) = a :: r
   rw [ih]
 rwa [h5] at h4
theorem loopS (n : Nat) {s q : Nat} {G : List AObj} {Sn : List C2} (hS : Sn.length < 4398046511104) (hs : G[s]? = some (.map (Sn.map eC) (Sn.map fun _ => dI 1))) (hq : G[q]? = some (.iter (.map s) Sn.length [] Sn.length)) {Q : Post}
  (hQ : ∀ G' d' T σ, OL G' d' T → T.Perm Sn → Abs.forget [2, 12] σ = Sm 89 [(2, nilD), (12, d')] G' → Q (.exit 8) σ) :
  Ht False Tryz.prog LE (S4 q nilD G) Q := by
 have hxn := hxU n
 refine Ht.loop (fun k σ => ∃ (seen : List Nat) (G : List AObj) (d : D), k = Sn.length - seen.length ∧ seen.Nodup ∧ (∀ j ∈ seen, j < Sn.length) ∧ OL G d (seen.filterMap (Sn[·]?)) ∧ G[s]? = some (.map (Sn.map eC) (Sn.map fun _ => dI 1)) ∧ G[q]? = some (.iter (.map s) Sn.length seen Sn.length) ∧ Abs.forget k4 σ = S4 q d G)
  Sn.length (by kernel_rfl) ⟨[], G, nilD, rfl, List.nodup_nil, (fun j hj => nomatch hj), .inl ⟨rfl, rfl⟩, hs, hq, by kernel_rfl⟩ ?_
 clear hs hq G
 rintro k σ ⟨seen, G, d, rfl, hnd, hlt, hO, hs, hit, hσ⟩
 refine Ht.forget k4 (Ht.st hσ ?_)
 clear hσ
 have hsl : (seen.filterMap (Sn[·]?)).length ≤ seen.length := List.length_filterMap_le _ _
 refine Ht.seq (by kernel_rfl) ?_
 refine Ht.next hxn (it := 77) (t := 78) (u := 79) (r := q) (since := Sn.length) (last := Sn.length) (seen := seen) (m := .map s) (ks := Sn.map eC) (vs := Sn.map fun _ => dI 1) (by kernel_rfl) (by kernel_rfl) hit (by show mapKV G (.map s) = _; simp only [mapKV, hs]) (by simp) (Nat.le_refl _) (by simp [Sm]) (fun hall => ?_) (fun j kk dd hj hk hd => ?_)
 ·refine seqH.n ?_
  refine Ht.seq (by kernel_rfl) ?_
  refine Ht.cond false (by kernel_rfl) (by kernel_rfl) (fun h => nomatch h) (fun _ => ?_)
  refine Ht.exit (id := 8) (by kernel_rfl) ?_
  exact hQ G d _ _ hO (fm_all Sn hnd hlt fun j hj => hall j (by simpa using hj)) (by kernel_rfl)
 ·obtain ⟨c, hc, rfl⟩ : ∃ c, Sn[j]? = some c ∧ kk = eC c := by
   rw [List.getElem?_map] at hk
   obtain ⟨e, he, e1⟩ := Option.map_eq_some_iff.1 hk
   exact ⟨e, he, e1.symm⟩
  have hjl := lt_of_getElem? hc
  have hdd : dd = dI 1 := by
   rw [List.getElem?_map, hc] at hd
   exact (Option.some.inj hd).symm
  subst hdd
  have hn2 := nodup_snoc hnd hj
  have hl2 : ∀ i ∈ seen ++ [j], i < Sn.length := fun i hi => by
   rcases List.mem_append.1 hi with h | h
   ·exact hlt i h
   ·simp at h; subst h; exact hjl
  have hlen := len_seen hn2 hl2
  rw [List.length_append, List.length_singleton] at hlen
  refine seqH.n ?_
  refine Ht.seq (by kernel_rfl) ?_
  refine Ht.cond true (by kernel_rfl) (by kernel_rfl) (fun _ => ?_) (fun h => nomatch h)
  refine Ht.skip (by kernel_rfl) ?_
  refine seqH.n ?_
  have hqs : q ≠ s := fun e => by subst e; rw [hs] at hit; cases hit
  have hs1 : (G.set q (.iter (.map s) Sn.length (seen ++ [j]) Sn.length))[s]? = some (.map (Sn.map eC) (Sn.map fun _ => dI 1)) := set_keep hqs hs
  have hO1 : OL (G.set q (.iter (.map s) Sn.length (seen ++ [j]) Sn.length)) d (seen.filterMap (Sn[·]?)) := by
   rcases hO with ⟨g1, g2⟩ | ⟨r, g1, g2, g3⟩
   ·exact .inl ⟨g1, g2⟩
   ·exact .inr ⟨r, g1, set_keep (fun e => by subst e; rw [hit] at g2; cases g2) g2, g3⟩
  have hi1 : (G.set q (.iter (.map s) Sn.length (seen ++ [j]) Sn.length))[q]? = some (.iter (.map s) Sn.length (seen ++ [j]) Sn.length) := List.getElem?_set_self (lt_of_getElem? hit)
  refine Ht.forget k4 (Ht.st (σ' := S4 q d (G.set q (.iter (.map s) Sn.length (seen ++ [j]) Sn.length))) (by rw [List.length_map]; kernel_rfl) ?_)
  generalize G.set q (.iter (.map s) Sn.length (seen ++ [j]) Sn.length) = K at hs1 hO1 hi1
  refine Ht.block 9 (by kernel_rfl) ?_
  refine Ht.seq (by kernel_rfl) ?_
  refine Ht.region hxn (by kernel_rfl) ?_
  refine Ops.one' 1 (fun h0 e0 => enS (h := h0) (q := q) (s := s) (Sn := Sn) (c := c) (hq_of (g := K) (e0.trans (by kernel_rfl)) hs1) (hq_of (g := K) (e0.trans (by kernel_rfl)) hi1) hc) (by kernel_rfl) (by kernel_rfl) ?_
  refine Ops.seg' 2 3 (by kernel_rfl) ?_
  refine Ops.one' 4 (fun h0 e0 => stc (i := tw153) (h := h0) (r := K.length) (off := 0) (cs := [dI 0, dI 0]) (cs' := [dI c.1, dI c.2]) (x := .v (eC c)) (hq_of (g := K ++ [.cells [dI 0, dI 0]]) (e0.trans (by kernel_rfl)) (mid_get K _ _)) rfl rfl) (by kernel_rfl) (by kernel_rfl) ?_
  refine Ops.done (by kernel_rfl) ?_
  refine seqH.n ?_
  refine Ht.forget k4c (Ht.st (σ' := S4c q K.length d (K ++ [cC c])) (by rw [← mid_set K (.cells [dI 0, dI 0])]; kernel_rfl) ?_)
  refine putS n (hO1.app [cC c]) (mid_get K _ _) (by omega) fun G' d' σ' hO' hk' hσ' => ?_
  refine blkH.n ?_
  exact ⟨Sn.length - (seen ++ [j]).length, by rw [List.length_append, List.length_singleton]; omega, seen ++ [j], G', d', rfl, hn2, hl2, by rw [fm_snoc hc]; exact hO', hk' _ _ (app_keep hs1) (fun l h => nomatch h), hk' _ _ (app_keep hi1) (fun l h => nomatch h), hσ'⟩
set_option maxHeartbeats 4000000
def QR (L : List C2) : Post := fun e σ => (e = .normal ∨ e = .ret) ∧ ∃ d, resultsD TW σ (resOf Tryz.prog 64) = some d ∧ OL σ.heap d L
theorem decP_map : ∀ {L : List C2}, (∀ c ∈ L, okI c.1 = true ∧ okI c.2 = true) → ∃ P : List CP, allM decP (L.map eC) = some P ∧ P.map CP.c = L
 | [], _ => ⟨[], rfl, rfl⟩
 | c :: r, h => by
  obtain ⟨P, h1, h2⟩ := decP_map (L := r) fun x hx => h x (List.mem_cons_of_mem _ hx)
  have h3 := h c List.mem_cons_self
  refine ⟨⟨c, h3⟩ :: P, ?_, by rw [List.map_cons, h2]⟩
  have h4 : decP (eC c) = some ⟨c, h3⟩ := by
   show (if h : okI c.1 = true ∧ okI c.2 = true then some (⟨c, h⟩ : CP) else none) = _
   rw [dif_pos h3]
  simp only [List.map_cons, allM, h4, h1]
theorem sortU_row {h : List AObj} {r : Nat} {T : List C2} (hr : h[r]? = some (.row 2 (T.map eC))) (h0 : 0 < T.length) (hl : T.length < 4611686018427387904) (hok : ∀ c ∈ T, okI c.1 = true ∧ okI c.2 = true) :
  sortU [.osl r 0 T.length false, .v (.fn 103)] h = some (U, h.set r (.row 2 ((isrt (ltOf cmpC) T).map eC))) := by
 obtain ⟨P, h1, h2⟩ := decP_map hok
 have hP : P.length = T.length := by rw [← h2, List.length_map]
 simp only [sortU, sortFnF, hr]
 rw [if_pos ⟨trivial, trivial, by simp, h0, hl⟩, h1, Option.map_some]
 have h3 : (isrt (ltOf cmpP) P).map CP.c = isrt (ltOf cmpC) T := by
  rw [map_isrt (lt := ltOf cmpP) (lt' := ltOf cmpC) CP.c (fun a b => rfl) P, h2]
 have h4 : (isrt (ltOf cmpP) P).map CP.e = (isrt (ltOf cmpC) T).map eC := by
  rw [← h3, List.map_map]; rfl
 rw [h4]
theorem call102 {n : Nat} {h : List AObj} {ds : List D} {d : D} {h' : List AObj} (hs : sortU ds h = some (d, h')) : callD (XU (n + 1)).E (XU (n + 1)).Γ 102 ds h = some (d, h') := by
 show (match Tryz.prog.funcs[102]? with
  | none => none
  | some fn => sortU ds h) = _
 rw [Tryz.func102]
 exact hs
theorem end64 (n : Nat) {s : Nat} {G : List AObj} {Sn : List C2} (hS : Sn.length < 4398046511104) (hok : ∀ c ∈ Sn, okI c.1 = true ∧ okI c.2 = true) (hs : G[s]? = some (.map (Sn.map eC) (Sn.map fun _ => dI 1))) :
  Ht False Tryz.prog (cR (cR T2)) (Sm 89 [(2, nilD), (8, .map s)] G) (QR (isrt (ltOf cmpC) Sn)) := by
 have hxn := hxU (n + 1)
 refine Ht.seq (by kernel_rfl) ?_
 refine Ht.region hxn (by kernel_rfl) ?_
 refine Ops.seg' 1 1 (by kernel_rfl) ?_
 refine Ops.done (by kernel_rfl) ?_
 refine seqH.n ?_
 refine Ht.seq (by kernel_rfl) ?_
 refine Ht.seq (by kernel_rfl) ?_
 refine Ht.region hxn (by kernel_rfl) ?_
 refine Ops.seg' 1 1 (by kernel_rfl) ?_
 refine Ops.one' 2 (fun h0 e0 => (show rangeD TW h0 145 (.map s) = some (.ptr h0.length 0, h0 ++ [.iter (.map s) Sn.length [] Sn.length]) by simp only [rangeD, show TW 145 = some tw145 from rfl, show tw145.kind = .map 153 3 from rfl, mapKV, e0.trans (show _ = G by kernel_rfl), hs, List.length_map])) (by kernel_rfl) (by kernel_rfl) ?_
 refine Ops.done (by kernel_rfl) ?_
 refine seqH.n ?_
 refine Ht.forget k4 (Ht.st (σ' := S4 G.length nilD (G ++ [.iter (.map s) Sn.length [] Sn.length])) (by kernel_rfl) ?_)
 refine Ht.block 8 (by kernel_rfl) ?_
 refine loopS (n + 1) hS (app_keep hs) (mid_get G _ _) fun G' d' T σ hO hp hσ => ?_
 refine blkH.x ?_
 refine seqH.n ?_
 refine Ht.forget [2, 12] (Ht.st hσ ?_)
 have hsrt : isrt (ltOf cmpC) Sn = isrt (ltOf cmpC) T := (isrt_uniq hp).symm
 rw [hsrt]
 have hok' : ∀ c ∈ T, okI c.1 = true ∧ okI c.2 = true := fun c hc => hok c (hp.mem_iff.1 hc)
 have hl : T.length < 4611686018427387904 := by rw [hp.length_eq]; omega
 have hr : resOf Tryz.prog 64 = [.tmp 2] := by kernel_rfl
 rcases hO with ⟨rfl, rfl⟩ | ⟨r, rfl, hr', hne⟩
 ·refine Ht.seq (by kernel_rfl) ?_
  refine Ht.region hxn (by kernel_rfl) ?_
  refine Ops.seg' 1 1 (by kernel_rfl) ?_
  refine Ops.one' 2 (fun h0 e0 => call102 (n := n) (h := h0) (ds := [nilD, .v (.fn 103)]) (d := U) (h' := h0) rfl) (by kernel_rfl) (by kernel_rfl) ?_
  refine Ops.done (by kernel_rfl) ?_
  refine seqH.n ?_
  refine Ht.seq (by kernel_rfl) ?_
  refine Ht.region hxn (by kernel_rfl) ?_
  refine Ops.seg' 2 2 (by kernel_rfl) ?_
  refine Ops.done (by kernel_rfl) ?_
  refine seqH.n ?_
  refine Ht.ret (by kernel_rfl) ?_
  exact ⟨.inr rfl, nilD, by kernel_rfl, .inl ⟨rfl, rfl⟩⟩
 ·have h0' : 0 < T.length := List.length_pos_iff.2 hne
  refine Ht.seq (by kernel_rfl) ?_
  refine Ht.region hxn (by kernel_rfl) ?_
  refine Ops.seg' 1 1 (by kernel_rfl) ?_
  refine Ops.one' 2 (fun h0 e0 => call102 (n := n) (h := h0) (ds := [.osl r 0 T.length false, .v (.fn 103)]) (d := U) (h' := h0.set r (.row 2 ((isrt (ltOf cmpC) T).map eC))) (sortU_row (hq_of (g := G') (e0.trans (by kernel_rfl)) hr') h0' hl hok')) (by kernel_rfl) (by kernel_rfl) ?_
  refine Ops.done (by kernel_rfl) ?_
  refine seqH.n ?_
  refine Ht.seq (by kernel_rfl) ?_
  refine Ht.region hxn (by kernel_rfl) ?_
  refine Ops.seg' 2 2 (by kernel_rfl) ?_
  refine Ops.done (by kernel_rfl) ?_
  refine seqH.n ?_
  refine Ht.ret (by kernel_rfl) ?_
  refine ⟨.inr rfl, .osl r 0 T.length false, by kernel_rfl, .inr ⟨r, by rw [(isrt_perm _ T).length_eq], List.getElem?_set_self (lt_of_getElem? hr'), fun e => ?_⟩⟩
  have := (isrt_perm (ltOf cmpC) T).length_eq
  rw [e] at this
  rw [← this] at h0'
  cases h0'
set_option maxHeartbeats 4000000
theorem decA_spec {ks vs : List V} {A : Arcs} (hl : ks.length = vs.length) (h : decA ks vs = some A) : ks = A.map (fun e => eC e.1) ∧ vs = A.map fun e => eL eS e.2 := by
 unfold decA at h
 split at h
 case h_2 => cases h
 rename_i ks' ls' h1 h2
 cases h
 have e1 := allM_dec (fun _ _ h => decC_spec h) h1
 have e2 : vs = ls'.map (eL eS) := allM_dec (dec := decL) (enc := eL eS) (fun v a h => by
  unfold decL at h
  split at h
  ·rename_i es
   have := allM_dec (fun _ _ h => decS_spec h) h
   rw [this]; rfl
  ·cases h) h2
 have hl' : ks'.length = ls'.length := by rw [e1, e2, List.length_map, List.length_map] at hl; exact hl
 have z1 : (ks'.zip ls').map (fun e => e.1) = ks' := List.map_fst_zip (Nat.le_of_eq hl')
 have z2 : (ks'.zip ls').map (fun e => e.2) = ls' := List.map_snd_zip (Nat.le_of_eq hl'.symm)
 constructor
 ·rw [e1]
  conv => lhs; rw [← z1]
  rw [List.map_map]; rfl
 ·rw [e2]
  conv => lhs; rw [← z2]
  rw [List.map_map]; rfl
theorem whole64 (n : Nat) (A : Arcs) (F : List C2) (fv : List V) (hv : fv.length = F.length) (L : List C2) (hL : usefulL (edgesOf A) F = some L) :
  Ht False Tryz.prog C64 (startIn Tryz.prog 64 [.v (.agg [mArcs A, mFin F fv])] []) (QR L) := by
 have hxn := hxU n
 unfold usefulL at hL
 split at hL
 case isFalse => cases hL
 rename_i hok
 cases hL
 have ho := okU_iff hok
 have l1 : A.length < 1048576 := by have := ho.l1; rwa [edgesOf, List.length_map] at this
 have l2 : ∀ e ∈ A, e.2.length < 1048576 := fun e he => by
  have := ho.l3 (e.1, e.2.map SP.to) (List.mem_map.2 ⟨e, he, rfl⟩)
  rwa [List.length_map] at this
 refine Ht.seq (by kernel_rfl) ?_
 refine Ht.region hxn (by kernel_rfl) ?_
 refine Ops.seg' 2 2 (by kernel_rfl) ?_
 refine Ops.done (by kernel_rfl) ?_
 refine seqH.n ?_
 refine Ht.seq (by kernel_rfl) ?_
 refine Ht.region hxn (by kernel_rfl) ?_
 refine Ops.seg' 2 2 (by kernel_rfl) ?_
 refine Ops.done (by kernel_rfl) ?_
 refine seqH.n ?_
 refine Ht.seq (by kernel_rfl) ?_
 refine Ht.seq (by kernel_rfl) ?_
 refine Ht.region hxn (by kernel_rfl) ?_
 refine Ops.seg' 2 2 (by kernel_rfl) ?_
 refine Ops.one' 3 (fun h0 e0 => (show rangeD TW h0 144 (.v (mArcs A)) = some (.ptr h0.length 0, h0 ++ [.iter (.v (mArcs A)) A.length [] A.length]) by simp only [rangeD, show TW 144 = some tw144 from rfl, show tw144.kind = .map 153 154 from rfl, mArcs, mapKV, List.length_map])) (by kernel_rfl) (by kernel_rfl) ?_
 refine Ops.done (by kernel_rfl) ?_
 refine seqH.n ?_
 refine Ht.forget k1 (Ht.st (σ' := S1 [.cells [.v (mArcs A), .v (mFin F fv)], .map [] [], .iter (.v (mArcs A)) A.length [] A.length]) (by kernel_rfl) ?_)
 refine Ht.block 0 (by kernel_rfl) ?_
 refine loopA n (mF := mFin F fv) l1 l2 ⟨rfl, rfl, ⟨rfl, (fun e he => nomatch he), .nil, .nil⟩, (fun t c => ⟨(fun ⟨x, hx, _⟩ => nomatch hx), (fun h => h.elim)⟩), Nat.le_refl _⟩ fun G B σ hBK hpr hmb hsm hσ => ?_
 refine blkH.x ?_
 refine seqH.n ?_
 refine Ht.forget k1 (Ht.st hσ ?_)
 clear hσ
 refine Ht.seq (by kernel_rfl) ?_
 refine Ht.region hxn (by kernel_rfl) ?_
 refine Ops.seg' 2 2 (by kernel_rfl) ?_
 refine Ops.done (by kernel_rfl) ?_
 refine seqH.n ?_
 refine Ht.seq (by kernel_rfl) ?_
 refine Ht.region hxn (by kernel_rfl) ?_
 refine Ops.seg' 1 1 (by kernel_rfl) ?_
 refine Ops.done (by kernel_rfl) ?_
 refine seqH.n ?_
 refine Ht.forget [1, 2, 3, 8, 9] (Ht.st (σ' := Sm 89 [(1, .ptr 0 0), (2, nilD), (3, .map 1), (8, .map G.length), (9, nilD)] (G ++ [.map [] []])) (by kernel_rfl) ?_)
 have hs0 : (G ++ [AObj.map [] []])[G.length]? = some (.map [] []) := mid_get G _ _
 have hne : G.length ≠ 1 := fun e => by have := lt_of_getElem? hBK.map; omega
 have hB1 := hBK.app [AObj.map [] []]
 have hp1 : (G ++ [AObj.map [] []])[0]? = some (.cells [.v (mArcs A), .v (mFin F fv)]) := app_keep hpr
 generalize G ++ [AObj.map [] []] = K at hs0 hB1 hp1
 generalize G.length = s at hs0 hne
 refine Ht.seq (by kernel_rfl) ?_
 refine Ht.seq (by kernel_rfl) ?_
 refine Ht.region hxn (by kernel_rfl) ?_
 refine Ops.seg' 1 1 (by kernel_rfl) ?_
 refine Ops.one' 2 (fun h0 e0 => ldc (i := tw145) (h := h0) (r := 0) (off := 1) (cs := [.v (mArcs A), .v (mFin F fv)]) (d := .v (mFin F fv)) (hq_of (g := K) (e0.trans (by kernel_rfl)) hp1) rfl) (by kernel_rfl) (by kernel_rfl) ?_
 refine Ops.one' 3 (fun h0 e0 => (show rangeD TW h0 145 (.v (mFin F fv)) = some (.ptr h0.length 0, h0 ++ [.iter (.v (mFin F fv)) F.length [] F.length]) by simp only [rangeD, show TW 145 = some tw145 from rfl, show tw145.kind = .map 153 3 from rfl, mFin, mapKV, List.length_map])) (by kernel_rfl) (by kernel_rfl) ?_
 refine Ops.done (by kernel_rfl) ?_
 refine seqH.n ?_
 refine Ht.forget k2 (Ht.st (σ' := S2 s K.length nilD (K ++ [.iter (.v (mFin F fv)) F.length [] F.length])) (by kernel_rfl) ?_)
 refine Ht.block 4 (by kernel_rfl) ?_
 refine loopF n hv ho.l2 ⟨hB1.app _, app_keep hs0, hne, .inl ⟨rfl, rfl⟩⟩ (mid_get K _ _) fun G' d' T σ hJ hT hTF hσ => ?_
 refine blkH.x ?_
 refine seqH.n ?_
 refine Ht.forget k3 (Ht.st hσ ?_)
 have hS : ∀ e ∈ B, e.1 ∈ setU (edgesOf A) F → ∀ x ∈ e.2.1, x ∈ setU (edgesOf A) F := fun e he h1 x hx => by
  obtain ⟨y, hy, h3, h4⟩ := (hmb e.1 x).1 ⟨e, he, rfl, hx⟩
  rw [← h3]
  exact ho.step y hy _ h4 h1
 refine Ht.seq (by kernel_rfl) ?_
 refine Ht.block 6 (by kernel_rfl) ?_
 refine loopD n (F := F) (S := setU (edgesOf A) F) hS hJ ⟨.nil, (fun c h => nomatch h), (fun c h => ho.fin c ((hTF c).1 h)), (fun c h => .inr ((hTF c).2 h)), (fun e he h => nomatch h)⟩ (Nat.lt_of_le_of_lt hT ho.l2) hsm fun G2 Sn σ2 hSn hI hσ2 => ?_
 refine blkH.x ?_
 refine seqH.n ?_
 refine Ht.forget [2, 8] (Ht.st hσ2 ?_)
 have hp : Sn.Perm (setU (edgesOf A) F) := setU_perm hok hI.nd hI.s1 (fun c hc => (hI.f c hc).resolve_right (fun h => nomatch h)) (fun e he t ht h1 => by
  obtain ⟨x, hx, h3, h4⟩ := (hmb t e.1).2 ⟨e, he, rfl, ht⟩
  exact (hI.b x hx (h3 ▸ h1) _ h4).resolve_right (fun h => nomatch h))
 have hlen : Sn.length < 1048576 := by rw [hp.length_eq]; exact ho.l4
 have := end64 n (by omega) (fun c hc => ho.le c (hp.mem_iff.1 hc)) hSn
 rw [isrt_uniq hp] at this
 exact this
theorem is64 : Is Tryz.prog 64 := ⟨Tryz.f64, Tryz.func64, by kernel_rfl, by kernel_rfl⟩
theorem ora64 : DOk False Tryz.prog 64 F64 := by
 refine ⟨is64, fun ds h d h' hd S β w us hrel hi => ?_⟩
 unfold F64 at hd
 split at hd
 case h_2 => cases hd
 rename_i ks vs fk fv
 split at hd
 case isFalse => cases hd
 rename_i hl
 obtain ⟨L, hL, hd⟩ := Option.map_eq_some_iff.1 hd
 unfold usefulV at hL
 split at hL
 case h_2 => cases hL
 rename_i A F hA hF
 obtain ⟨rfl, rfl⟩ := decA_spec hl.1 hA
 have eF := allM_dec (fun _ _ h => decC_spec h) hF
 subst eF
 have hlv : fv.length = F.length := by have := hl.2; rw [List.length_map] at this; exact this.symm
 have hβ : β = [] := List.eq_nil_of_length_eq_zero hi.len
 subst hβ
 refine (callT_of_ht (c := C64) (Qc := fun d h' => OL h' d L) Tryz.func64 (by kernel_rfl) TW_ok ((whole64 1 A F fv hlv L hL).mono fun e σ ⟨h1, d, h2, h3⟩ => ⟨h1, d, h2, h3⟩) S [] w us hrel hi).mono ?_
 rintro e w' ⟨d0, G, v, S1, β1, hO, rfl, hE, hI, hR⟩
 rcases hO with ⟨rfl, rfl⟩ | ⟨r, rfl, hr, hne⟩
 ·have e1 : d = nilD ∧ h' = [] := by
   have hd : (nilD, ([] : List AObj)) = (d, h') := hd
   exact ⟨(Prod.mk.inj hd).1.symm, (Prod.mk.inj hd).2.symm⟩
  obtain ⟨rfl, rfl⟩ := e1
  refine ⟨v, S1, [], rfl, ⟨hE.keeps, (fun r x h => h), hE.size, hE.rest, (fun r b c k h => by simp at h), hE.os, hE.tape, hE.output, hE.drawn, hE.stay⟩, ⟨rfl, (fun r o b c k h => by simp at h), (fun r o b c k h => by simp at h), (fun r r' o o' b c k c' k' h => by simp at h), (fun r o b c k i h => by simp at h), hI.sb, hI.gl, (fun r b c k h => by simp at h)⟩, .v _ _ hR.of_v⟩
 ·have e1 : d = .osl 0 0 L.length false ∧ h' = [.row 2 (L.map eC)] := by
   cases L with
   | nil => exact absurd rfl hne
   | cons c L =>
    have hd : (D.osl 0 0 (c :: L).length false, [AObj.row 2 ((c :: L).map eC)]) = (d, h') := hd
    exact ⟨(Prod.mk.inj hd).1.symm, (Prod.mk.inj hd).2.symm⟩
  obtain ⟨rfl, rfl⟩ := e1
  cases hR with
  | osl _ _ _ b c k p cap _ hb hc hp hcap =>
  have one : ∀ {i : Nat} {o : AObj}, ([AObj.row 2 (L.map eC)] : List AObj)[i]? = some o → i = 0 ∧ o = .row 2 (L.map eC) := fun {i o} h => by
   cases i with
   | zero => cases h; exact ⟨rfl, rfl⟩
   | succ i => simp at h
  have oneB : ∀ {i : Nat} {x : Nat × Nat × Nat}, ([(b, c, k)] : List (Nat × Nat × Nat))[i]? = some x → x = (b, c, k) := fun {i x} h => by
   cases i with
   | zero => cases h; rfl
   | succ i => simp at h
  refine ⟨_, S1, [(b, c, k)], rfl, ⟨hE.keeps, (fun r x h => by simp at h), hE.size, hE.rest, fun i b' c' k' h => ?_, hE.os, hE.tape, hE.output, hE.drawn, hE.stay⟩, ⟨rfl, fun i o b' c' k' h1 h2 => ?_, fun i o b' c' k' h1 h2 h3 => ?_, fun i i' o o' b' c' k' c'' k'' h1 h2 h3 h4 _ _ => ?_, fun i o b' c' k' j h1 h2 h3 h4 => ?_, hI.sb, hI.gl, fun i b' c' k' h1 => ?_⟩, .osl 0 0 L.length b c k p cap false rfl hc hp hcap⟩
  ·have e2 := oneB h
   cases e2
   exact hE.fresh r b c k' hb
  ·obtain ⟨rfl, rfl⟩ := one h1
   cases oneB h2
   exact hI.obj r _ b c k hr hb
  ·obtain ⟨rfl, rfl⟩ := one h1
   cases oneB h3
   exact hI.lt r _ b c k hr rfl hb
  ·rw [(one h1).1, (one h3).1]
  ·obtain ⟨rfl, rfl⟩ := one h1
   cases oneB h3
   exact hI.own r _ b c k j hr rfl hb h4
  ·cases oneB h1
   exact hI.dl r b c k' hb
end Go.Abs.Us
