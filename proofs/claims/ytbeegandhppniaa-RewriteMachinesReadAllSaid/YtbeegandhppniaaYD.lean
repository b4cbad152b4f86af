import Derived.Test.YtbeegandhppniaaWF1
import Derived.Test.YtbeegandhppniaaAbsHC
import Derived.Test.YtbeegandhppniaaAbsH
import Derived.Test.YtbeegandhppniaaAbsV
namespace Go.Abs.Ya
open Go.Sort Go.Proofs
set_option linter.unusedVariables false
set_option linter.unusedSimpArgs false
set_option linter.unnecessarySimpa false
set_option maxRecDepth 100000
def ti86 : TI := ⟨.map 76 3, 1, 8, .nilmap, true, []⟩
def ti44 : TI := ⟨.ptr 46, 1, 8, .nilptr, true, [("glosswright/rewrite.begin", some (14, true)), ("glosswright/rewrite.longer", some (52, true)), ("glosswright/rewrite.machine", some (15, true)), ("glosswright/rewrite.places", some (16, true)), ("glosswright/rewrite.read", some (39, true)), ("glosswright/rewrite.tail", some (31, true)), ("glosswright/rewrite.waiting", some (32, true))]⟩
def TM (t : Nat) : Option TI := if t = 86 then some ti86 else if t = 44 then some ti44 else T t
theorem TM_ok : ∀ t i, TM t = some i → tiOf Try.prog t = some i := by
 intro t i h
 unfold TM at h
 split at h
 ·rename_i e; subst e; cases h; kernel_rfl
 ·split at h
  ·rename_i e; subst e; cases h; kernel_rfl
  ·exact T_ok t i h
noncomputable def XM (n : Nat) : Cx := ⟨{ E with T := TM, dynP := true }, run Try.prog E n, ⟨fun _ => [], fun _ => [], fun _ => []⟩, [], n⟩
theorem hxM (n : Nat) : Hx False Try.prog (XM n) := ⟨good.mixed, TM_ok, run_sound good n⟩
noncomputable def XR (n : Nat) : Cx := ⟨{ E with T := TM, rowM := true, dynP := true }, run Try.prog E n, ⟨fun _ => [], fun _ => [], fun _ => []⟩, [], n⟩
theorem hxR (n : Nat) : Hx False Try.prog (XR n) := ⟨good.mixed, TM_ok, run_sound good n⟩
theorem ldc {i : TI} {h : List AObj} {r off : Nat} {cs : List D} {d : D} (hr : h[r]? = some (.cells cs)) (hd : (cut cs off i.size).bind (mkOf i.kind.isAgg) = some d) : (loadD i h (.ptr r off)).map (·, h) = some (d, h) := by
 simp only [loadD, hr, hd, Option.map_some]
theorem stc {i : TI} {h : List AObj} {r off : Nat} {cs cs' : List D} {x : D} (hr : h[r]? = some (.cells cs)) (hs : (x.solid && x.cells.length == i.size) = true) (hc : splice cs off x.cells = some cs') : (storeD i h (.ptr r off) x).map (U, ·) = some (U, h.set r (.cells cs')) := by
 simp only [storeD, hs, if_true, hr, hc, Option.map_some]
def Sm (n : Nat) (l : List (Nat × D)) (h : List AObj) : St := ⟨(List.range n).map fun i => (l.lookup i).getD .undef, h⟩
theorem seqH.x {DR : Prop} {P : Program} {b : Code} {Q : Post} {id : Nat} {σ : St} (h : Q (.exit id) σ) : seqH DR P b Q (.exit id) σ := h
theorem seqH.r {DR : Prop} {P : Program} {b : Code} {Q : Post} {σ : St} (h : Q .ret σ) : seqH DR P b Q .ret σ := h
theorem blkH.r {id : Nat} {Q : Post} {σ : St} (h : Q .ret σ) : blkH id Q .ret σ := h
theorem blkH.n {id : Nat} {Q : Post} {σ : St} (h : Q .normal σ) : blkH id Q .normal σ := h
theorem Ht.st {DR : Prop} {P : Program} {c : Code} {σ σ' : St} {Q : Post} (e : σ = σ') (h : Ht DR P c σ' Q) : Ht DR P c σ Q := by rw [e]; exact h
theorem _root_.Go.Abs.Ht.regionF {DR : Prop} {P : Program} {X : Cx} {c : Code} {σ : St} {Q : Post} (H : Hx DR P X) (hc : regionFar X.E σ c = true) (h : Ops X (opl c) 0 σ (Q .normal)) : Ht DR P c σ Q := .of_wp H (Wp.regionF hc h)
theorem Ht.pad {DR : Prop} {P : Program} {c : Code} {σ : St} {Q : Post} (h : Ht DR P c ⟨σ.tmps, σ.heap ++ [.dead]⟩ Q) : Ht DR P c σ Q := by
 intro S β a w hI
 obtain ⟨β', hI', hE⟩ := hI.padS (DR := DR)
 exact wp_mono (h S β' a w hI') fun _ _ _ ⟨e, σ', hq, hh⟩ => ⟨e, σ', hq, hh.ext hE⟩
theorem mid_get (A : List AObj) (x : AObj) (l : List AObj) : (A ++ x :: l)[A.length]? = some x := by rw [List.getElem?_append_right (Nat.le_refl _), Nat.sub_self]; rfl
theorem mid_set (A : List AObj) (x y : AObj) (l : List AObj) : (A ++ x :: l).set A.length y = A ++ y :: l := by rw [List.set_append_right _ _ (Nat.le_refl _), Nat.sub_self]; rfl
theorem set_keep {G : List AObj} {r q : Nat} {x o : AObj} (hne : q ≠ r) (h : G[r]? = some o) : (G.set q x)[r]? = some o := by rw [List.getElem?_set_ne hne]; exact h
theorem app_keep {G l : List AObj} {r : Nat} {o : AObj} (h : G[r]? = some o) : (G ++ l)[r]? = some o := by rw [List.getElem?_append_left (lt_of_getElem? h)]; exact h
theorem callT_eq {DR : Prop} {P : Program} {f : FuncId} {ds ds' : List D} {h h' : List AObj} {Q : D → List AObj → Prop} (e1 : ds = ds') (e2 : h = h') (hc : CallT DR P f ds' h' Q) : CallT DR P f ds h Q := by rw [e1, e2]; exact hc
theorem dcall {DR : Prop} {P : Program} {f : FuncId} {F : List D → List AObj → Option (D × List AObj)} (h : DOk DR P f F) {ds : List D} {hp hp' : List AObj} {d : D} (he : F ds hp = some (d, hp')) : CallT DR P f ds hp fun d0 h0 => d0 = d ∧ h0 = hp' := by
 intro S β w vs hr hi
 refine (h.2 ds hp d hp' he S β w vs hr hi).mono ?_
 rintro e w' ⟨v, S', β', h1, h2, h3, h4⟩
 exact ⟨d, hp', v, S', β', ⟨rfl, rfl⟩, h1, h2, h3, h4⟩
theorem key75 (x : S75) : keyOk TM 76 (e75 x) = true := by
 kernel_rfl
theorem eqV75 (x y : S75) : eqV TM 8 76 (e75 x) (e75 y) = some ((x.fFit == y.fFit) && ((x.fSince == y.fSince) && true)) := by
 kernel_rfl
instance : DecidableEq S75 := fun x y => if h : x.fFit = y.fFit ∧ x.fSince = y.fSince then isTrue (by cases x; cases y; obtain ⟨h1, h2⟩ := h; cases h1; cases h2; rfl) else isFalse fun e => h (by subst e; exact ⟨rfl, rfl⟩)
theorem beq75 (x y : S75) : ((x.fFit == y.fFit) && ((x.fSince == y.fSince) && true)) = decide (x = y) := by
 cases x with
 | mk a b =>
  cases y with
  | mk c d =>
   rw [Bool.and_true]
   by_cases h1 : a = c
   ·by_cases h2 : b = d
    ·subst h1 h2; simp
    ·simp [h1, h2]
   ·simp [h1]
theorem keyFind75 (x : S75) : ∀ (l : List S75) (i : Nat), keyFind TM 76 (e75 x) (l.map e75) i = some (if x ∈ l then some (i + l.idxOf x) else none)
 | [], i => rfl
 | y :: r, i => by
  show (match eqV TM 8 76 (e75 x) (e75 y) with
   | some true => if keyTwin (e75 x) (e75 y) then some (some i) else none
   | some false => keyFind TM 76 (e75 x) (r.map e75) (i + 1)
   | none => none) = _
  rw [eqV75, beq75]
  by_cases h : x = y
  ·subst h
   rw [decide_eq_true rfl]
   have ht : keyTwin (e75 x) (e75 x) = true := by
    show intsB _ _ = true
    simp [intsB]
   simp [ht]
  ·rw [decide_eq_false h]
   show keyFind TM 76 (e75 x) (r.map e75) (i + 1) = _
   rw [keyFind75 x r (i + 1)]
   by_cases hm : x ∈ r
   ·rw [if_pos hm, if_pos (List.mem_cons_of_mem _ hm), List.idxOf_cons, show (y == x) = false by simpa using fun e => h e.symm]
    simp; omega
   ·rw [if_neg hm, if_neg (by simp [h, hm])]
end Go.Abs.Ya
namespace Go.Abs.Yb
open Go.Sort Go.Proofs Go.Abs.Ya
set_option linter.unusedVariables false
set_option maxRecDepth 100000
set_option maxHeartbeats 4000000
def adj (L : List S75) (q : S75) : List S75 := if q ∈ L then L else L ++ [q]
def plIn (m : Nat) (b : S45) (p : S75) (i : Int) : List Int → List S75 → List S79 → Option (List S75 × List S79)
 | [], L, M => some (L, M)
 | x :: r, L, M => match f39 m b p x with
  | none => none
  | some (q, out) => if L.length < 1000000 ∧ M.length < 1000000 then plIn m b p i r (adj L q) (M ++ [⟨i, x, ((adj L q).idxOf q : Nat), out⟩]) else none
def plOut (m : Nat) (b : S45) (al : List Int) : Nat → Nat → List S75 → List S79 → Option (List S75 × List S79)
 | 0, _, _, _ => none
 | K + 1, i, L, M => match L[i]? with
  | none => some (L, M)
  | some p => match plIn m b p i al L M with
   | none => none
   | some (L', M') => plOut m b al K (i + 1) L' M'
abbrev bc (b : S45) : List V := [(vP eI b.fR.fFrom), (vP eI b.fR.fTo), (vP eI b.fR.fLeft), (vP eI b.fR.fRight), (vP eI b.fWhole), (vP eI b.fBack)]
def ixs (n : Nat) : List D := (List.range n).map fun (j : Nat) => dI j
theorem ixs_get {n j : Nat} (h : j < n) : (ixs n)[j]? = some (dI j) := by simp [ixs, List.getElem?_range h]
theorem ixs_succ (n : Nat) : ixs (n + 1) = ixs n ++ [dI n] := by simp [ixs, List.range_succ]
structure Inv (L : List S75) (M : List S79) (ag : AG) (q : Nat) (ag' : AG) (q' : Nat) (G : List AObj) : Prop where
 map : G[0]? = some (.map (L.map e75) (ixs L.length))
 hl : G[q]? = some (AG.o ag 2 (L.map e75))
 hm : G[q']? = some (AG.o ag' 4 (M.map e79))
theorem Inv.app {L M ag q ag' q' G} (h : Inv L M ag q ag' q' G) (l : List AObj) : Inv L M ag q ag' q' (G ++ l) := ⟨app_keep h.map, app_keep h.hl, app_keep h.hm⟩
theorem o_map {ag : AG} {k : Nat} {xs ks : List V} {vs : List D} (h : AG.o ag k xs = .map ks vs) : False := by cases ag <;> cases h
theorem o_two {ag ag' : AG} {k k' : Nat} {xs xs' : List V} (h : AG.o ag k xs = AG.o ag' k' xs') (hne : k ≠ k') : AG.o ag k xs = .dead := by
 cases ag with
 | fl f => rfl
 | tok => cases ag' with
  | fl f => cases h
  | tok => simp only [AG.o, AObj.tok.injEq] at h; exact absurd h.1 hne
theorem set_dead {G : List AObj} {q q' k k' : Nat} {ag ag' : AG} {xs xs' : List V} (h : G[q]? = some (AG.o ag k xs)) (h' : G[q']? = some (AG.o ag' k' xs')) (hne : k ≠ k') : (G.set q .dead)[q']? = some (AG.o ag' k' xs') := by
 by_cases e : q = q'
 ·subst e
  rw [h] at h'
  have e1 := o_two (Option.some.inj h') hne
  rw [List.getElem?_set_self (lt_of_getElem? h), ← Option.some.inj h', e1]
 ·exact set_keep e h'
theorem Inv.q0 {L M ag q ag' q' G} (h : Inv L M ag q ag' q' G) : q ≠ 0 := fun e => by
 subst e
 have := h.hl
 rw [h.map] at this
 exact o_map (Option.some.inj this).symm
theorem Inv.q0' {L M ag q ag' q' G} (h : Inv L M ag q ag' q' G) : q' ≠ 0 := fun e => by
 subst e
 have := h.hm
 rw [h.map] at this
 exact o_map (Option.some.inj this).symm
theorem lk0 {h : List AObj} {L : List S75} {q : S75} (hm : q ∉ L) (h0 : h[0]? = some (.map (L.map e75) (ixs L.length))) : (lookupD TM h 86 (.map 0) (.v (e75 q)) true).map (·, h) = some (.v (.tuple [vI 0, .bool false]), h) := by
 have h1 : TM 86 = some ti86 := rfl
 have h2 : TM 3 = some ti3 := rfl
 have hk := keyFind75 q L 0
 rw [if_neg hm] at hk
 simp only [lookupD, h1, show ti86.kind = .map 76 3 from rfl, h2, key75, if_true, mapKV, h0, hk]
 rfl
theorem lk1 {h : List AObj} {L : List S75} {q : S75} (hm : q ∈ L) (h0 : h[0]? = some (.map (L.map e75) (ixs L.length))) : (lookupD TM h 86 (.map 0) (.v (e75 q)) true).map (·, h) = some (.v (.tuple [vI (L.idxOf q : Nat), .bool true]), h) := by
 have h1 : TM 86 = some ti86 := rfl
 have h2 : TM 3 = some ti3 := rfl
 have hk := keyFind75 q L 0
 rw [if_pos hm, Nat.zero_add] at hk
 simp only [lookupD, h1, show ti86.kind = .map 76 3 from rfl, h2, key75, if_true, mapKV, h0, hk, ixs_get (List.idxOf_lt_length_of_mem hm)]
 rfl
theorem lk2 {h : List AObj} {L : List S75} {q : S75} (hm : q ∈ L) (h0 : h[0]? = some (.map (L.map e75) (ixs L.length))) : (lookupD TM h 86 (.map 0) (.v (e75 q)) false).map (·, h) = some (dI (L.idxOf q : Nat), h) := by
 have h1 : TM 86 = some ti86 := rfl
 have h2 : TM 3 = some ti3 := rfl
 have hk := keyFind75 q L 0
 rw [if_pos hm, Nat.zero_add] at hk
 simp only [lookupD, h1, show ti86.kind = .map 76 3 from rfl, h2, key75, if_true, mapKV, h0, hk, ixs_get (List.idxOf_lt_length_of_mem hm)]
 rfl
theorem mu {h : List AObj} {L : List S75} {q : S75} (hm : q ∉ L) (h0 : h[0]? = some (.map (L.map e75) (ixs L.length))) : (mapSetD TM h 86 (.map 0) (.v (e75 q)) (dI L.length)).map (U, ·) = some (U, h.set 0 (.map ((L ++ [q]).map e75) (ixs (L ++ [q]).length))) := by
 have h1 : TM 86 = some ti86 := rfl
 have hk := keyFind75 q L 0
 rw [if_neg hm] at hk
 simp only [mapSetD, h1, show ti86.kind = .map 76 3 from rfl, key75, if_true, h0, hk, Option.map_some]
 rw [List.map_append, List.length_append, List.length_singleton, ixs_succ]
 rfl
noncomputable def C16 : Code := bodyOf Try.prog 16
noncomputable abbrev A16 : Code := cR (cR (cR (cR C16)))
noncomputable abbrev LP0 : Code := cL (cR (cL A16))
noncomputable abbrev LB0 : Code := cL LP0
noncomputable abbrev IN0 : Code := cL (cL (cR LB0))
noncomputable abbrev LP2 : Code := cL (cR IN0)
noncomputable abbrev LB2 : Code := cL LP2
noncomputable abbrev B3 : Code := cL (cL (cR (cR LB2)))
abbrev KO : List Nat := [0, 1, 6, 7, 8, 9]
abbrev KI : List Nat := [0, 1, 6, 7, 8, 9, 27, 28, 29]
abbrev So (b : S45) (al : List Int) (L : List S75) (M : List S79) (ag : AG) (q : Nat) (ag' : AG) (q' : Nat) (i : Int) (G : List AObj) : St :=
 Sm 72 [(0, .vptr (bc b)), (1, dP eI al), (6, AG.d ag q (L.map e75)), (7, .map 0), (8, AG.d ag' q' (M.map e79)), (9, dI i)] G
abbrev Si (b : S45) (al : List Int) (L : List S75) (M : List S79) (ag : AG) (q : Nat) (ag' : AG) (q' : Nat) (i j : Int) (G : List AObj) : St :=
 Sm 72 [(0, .vptr (bc b)), (1, dP eI al), (6, AG.d ag q (L.map e75)), (7, .map 0), (8, AG.d ag' q' (M.map e79)), (9, dI i), (27, dP eI al), (28, dI al.length), (29, dI j)] G
abbrev c00 : AObj := .cells [dI 0, dI 0]
abbrev cQ (p : S75) : AObj := .cells [dI p.fFit, dI p.fSince]
abbrev Sx (b : S45) (al : List Int) (L : List S75) (M : List S79) (ag : AG) (q : Nat) (ag' : AG) (q' : Nat) (i j x : Int) (g : Nat) (out : List Int) (G : List AObj) : St :=
 Sm 72 [(0, .vptr (bc b)), (1, dP eI al), (6, AG.d ag q (L.map e75)), (7, .map 0), (8, AG.d ag' q' (M.map e79)), (9, dI i), (11, dI x), (12, .ptr g 0), (13, .v (eL eI out)), (27, dP eI al), (28, dI al.length), (29, dI j)] G
theorem last16 (n : Nat) {b : S45} {al : List Int} {L : List S75} {M : List S79} {ag : AG} {q : Nat} {ag' : AG} {q' : Nat} {i j x : Int} {g : Nat} {out : List Int} {G : List AObj} (hI : Inv L M ag q ag' q' G) {p : S75} (hp : p ∈ L) (hg : G[g]? = some (cQ p)) (hM : M.length < 1000000) {Q : Post}
  (hQ : ∀ ag' q' G' σ, Inv L (M ++ [⟨i, x, (L.idxOf p : Nat), out⟩]) ag q ag' q' G' → Abs.forget KI σ = Si b al L (M ++ [⟨i, x, (L.idxOf p : Nat), out⟩]) ag q ag' q' i j G' → Q .normal σ) :
  Ht False Try.prog (cR (cR (cR B3))) (Sx b al L M ag q ag' q' i j x g out G) Q := by
 have hxn := hxM n
 refine Ht.region hxn (by kernel_rfl) ?_
 refine Ops.seg' 4 4 (by kernel_rfl) ?_
 refine Ops.one' 5 (fun h0 e0 => ldc (i := ti76) (h := h0) (r := g) (off := 0) (cs := [dI p.fFit, dI p.fSince]) (d := .v (.agg [vI p.fFit, vI p.fSince])) (hq_of (g := G) (e0.trans (by kernel_rfl)) hg) rfl) (by kernel_rfl) (by kernel_rfl) ?_
 refine Ops.one' 6 (fun h0 e0 => lk2 (h := h0) (q := p) hp (hq_of (g := G) (e0.trans (by kernel_rfl)) hI.map)) (by kernel_rfl) (by kernel_rfl) ?_
 refine Ops.seg' 3 9 (by kernel_rfl) ?_
 refine Ops.one' 10 (fun h0 e0 => app_g (T := TM) h0 49 80 q' 4 ti80 ag' .nonfull e79 M [⟨i, x, (L.idxOf p : Nat), out⟩] (M ++ [⟨i, x, (L.idxOf p : Nat), out⟩]) (app_some _ _ _ (by show (M.length + 1) * 48 ≤ _; omega) (by show M.length + 1 ≤ _; omega)) (by kernel_rfl) (by kernel_rfl) (by kernel_rfl) (by kernel_rfl) (fun _ => rfl) (hq_of (g := G) (e0.trans (by kernel_rfl)) hI.hm)) (by kernel_rfl) (by kernel_rfl) ?_
 refine Ops.seg' 1 11 (by kernel_rfl) ?_
 refine Ops.done (by kernel_rfl) ?_
 refine hQ (ag'.app [e79 (⟨i, x, (L.idxOf p : Nat), out⟩ : S79)]) G.length (G.set q' .dead ++ [AG.o (ag'.app [e79 (⟨i, x, (L.idxOf p : Nat), out⟩ : S79)]) 4 ((M ++ [(⟨i, x, (L.idxOf p : Nat), out⟩ : S79)]).map e79)]) _ ⟨app_keep (set_keep hI.q0' hI.map), app_keep (set_dead hI.hm hI.hl (by decide)), ?_⟩ (by kernel_rfl)
 rw [show G.length = (G.set q' AObj.dead).length by simp]
 exact mid_get _ _ _
theorem one16 (n m : Nat) (hn : m + 3 ≤ n) {b : S45} {al : List Int} {L : List S75} {M : List S79} {ag : AG} {q : Nat} {ag' : AG} {q' : Nat} {i j : Nat} {x : Int} {p z : S75} {out : List Int} (hx : al[j]? = some x) (hp : L[i]? = some p) (hf : f39 m b p x = some (z, out)) {G : List AObj} (hI : Inv L M ag q ag' q' G)
  (hL : L.length < 1000000) (hM : M.length < 1000000) {Q : Post}
  (hQ : ∀ ag q ag' q' G' σ, Inv (adj L z) (M ++ [⟨i, x, ((adj L z).idxOf z : Nat), out⟩]) ag q ag' q' G' → Abs.forget KI σ = Si b al (adj L z) (M ++ [⟨i, x, ((adj L z).idxOf z : Nat), out⟩]) ag q ag' q' i j G' → Q .normal σ) :
  Ht False Try.prog B3 (Si b al L M ag q ag' q' i j G) Q := by
 have hxn := hxM n
 have ix : idx al (j : Int) = some x := by rw [idx_get]; exact hx
 have ip : idx L (i : Int) = some p := by rw [idx_get]; exact hp
 refine Ht.seq (by kernel_rfl) ?_
 refine Ht.region hxn (by kernel_rfl) ?_
 refine Ops.one' 1 (fun h0 e0 => ix_r (T := TM) h0 22 3 1 .plain eI al j x ix (by kernel_rfl) (by kernel_rfl) (fun _ => rfl)) (by kernel_rfl) (by kernel_rfl) ?_
 refine Ops.seg' 2 3 (by kernel_rfl) ?_
 refine Ops.done (by kernel_rfl) ?_
 refine seqH.n ?_
 refine Ht.seq (by kernel_rfl) ?_
 refine Ht.region hxn (by kernel_rfl) ?_
 refine Ops.seg' 3 3 (by kernel_rfl) ?_
 refine Ops.one' 4 (fun h0 e0 => ix_g (T := TM) h0 48 76 2 q ag e75 L i p ip (by kernel_rfl) (by kernel_rfl) (fun _ => rfl)) (by kernel_rfl) (by kernel_rfl) ?_
 refine Ops.seg' 2 6 (by kernel_rfl) ?_
 refine Ops.one' 7 (fun h0 e0 => call_ok (E' := (XM n).E) (h := h0) (by kernel_rfl) (Args.vp (bc b) (Args.v (.agg [vI p.fFit, vI p.fSince]) (e75 p) (by kernel_rfl) (Args.v (vI x) (eI x) (by kernel_rfl) Args.nil))) (ok39 m b p x (z, out) hf n (by omega))) (by kernel_rfl) (by kernel_rfl) ?_
 refine Ops.seg' 4 11 (by kernel_rfl) ?_
 refine Ops.one' 12 (fun h0 e0 => stc (i := ti76) (h := h0) (r := G.length) (off := 0) (cs := [dI 0, dI 0]) (cs' := [dI z.fFit, dI z.fSince]) (x := .v (e75 z)) (hq_of (g := G ++ [c00]) (e0.trans (by kernel_rfl)) (mid_get G _ _)) rfl rfl) (by kernel_rfl) (by kernel_rfl) ?_
 refine Ops.seg' 1 13 (by kernel_rfl) ?_
 refine Ops.done (by kernel_rfl) ?_
 refine seqH.n ?_
 refine Ht.forget (11 :: 12 :: 13 :: KI) (Ht.st (σ' := Sx b al L M ag q ag' q' i j x G.length out (G ++ [cQ z])) (by rw [← mid_set G c00]; kernel_rfl) ?_)
 have hK : Inv L M ag q ag' q' (G ++ [cQ z]) := hI.app _
 have hz : (G ++ [cQ z])[G.length]? = some (cQ z) := mid_get _ _ _
 have hg0 : G.length ≠ 0 := fun e => by have := lt_of_getElem? hI.map; omega
 generalize G ++ [cQ z] = K at hK hz ⊢
 generalize G.length = g at hz hg0 ⊢
 refine Ht.seq (by kernel_rfl) ?_
 refine Ht.seq (by kernel_rfl) ?_
 by_cases hm : z ∈ L
 ·have ha : adj L z = L := if_pos hm
  rw [ha] at hQ
  refine Ht.region hxn (by kernel_rfl) ?_
  refine Ops.seg' 1 1 (by kernel_rfl) ?_
  refine Ops.one' 2 (fun h0 e0 => ldc (i := ti76) (h := h0) (r := g) (off := 0) (cs := [dI z.fFit, dI z.fSince]) (d := .v (.agg [vI z.fFit, vI z.fSince])) (hq_of (g := K) (e0.trans (by kernel_rfl)) hz) rfl) (by kernel_rfl) (by kernel_rfl) ?_
  refine Ops.one' 3 (fun h0 e0 => lk1 (h := h0) (q := z) hm (hq_of (g := K) (e0.trans (by kernel_rfl)) hK.map)) (by kernel_rfl) (by kernel_rfl) ?_
  refine Ops.seg' 5 8 (by kernel_rfl) ?_
  refine Ops.done (by kernel_rfl) ?_
  refine seqH.n ?_
  refine Ht.seq (by kernel_rfl) ?_
  refine Ht.region hxn (by kernel_rfl) ?_
  refine Ops.seg' 2 2 (by kernel_rfl) ?_
  refine Ops.done (by kernel_rfl) ?_
  refine seqH.n ?_
  refine Ht.cond false (by kernel_rfl) (by kernel_rfl) (fun hc => nomatch hc) (fun _ => ?_)
  refine Ht.skip (by kernel_rfl) ?_
  refine seqH.n ?_
  refine Ht.forget (11 :: 12 :: 13 :: KI) (Ht.st (σ' := Sx b al L M ag q ag' q' i j x g out K) (by kernel_rfl) ?_)
  exact last16 n hK hm hz hM fun ag' q' G' σ h1 h2 => hQ _ _ _ _ _ _ h1 h2
 ·have ha : adj L z = L ++ [z] := if_neg hm
  rw [ha] at hQ
  refine Ht.region hxn (by kernel_rfl) ?_
  refine Ops.seg' 1 1 (by kernel_rfl) ?_
  refine Ops.one' 2 (fun h0 e0 => ldc (i := ti76) (h := h0) (r := g) (off := 0) (cs := [dI z.fFit, dI z.fSince]) (d := .v (.agg [vI z.fFit, vI z.fSince])) (hq_of (g := K) (e0.trans (by kernel_rfl)) hz) rfl) (by kernel_rfl) (by kernel_rfl) ?_
  refine Ops.one' 3 (fun h0 e0 => lk0 (h := h0) (q := z) hm (hq_of (g := K) (e0.trans (by kernel_rfl)) hK.map)) (by kernel_rfl) (by kernel_rfl) ?_
  refine Ops.seg' 5 8 (by kernel_rfl) ?_
  refine Ops.done (by kernel_rfl) ?_
  refine seqH.n ?_
  refine Ht.seq (by kernel_rfl) ?_
  refine Ht.region hxn (by kernel_rfl) ?_
  refine Ops.seg' 2 2 (by kernel_rfl) ?_
  refine Ops.done (by kernel_rfl) ?_
  refine seqH.n ?_
  refine Ht.cond true (by kernel_rfl) (by kernel_rfl) (fun _ => ?_) (fun hc => nomatch hc)
  refine Ht.seq (by kernel_rfl) ?_
  refine Ht.region hxn (by kernel_rfl) ?_
  refine Ops.seg' 1 1 (by kernel_rfl) ?_
  refine Ops.one' 2 (fun h0 e0 => ldc (i := ti76) (h := h0) (r := g) (off := 0) (cs := [dI z.fFit, dI z.fSince]) (d := .v (.agg [vI z.fFit, vI z.fSince])) (hq_of (g := K) (e0.trans (by kernel_rfl)) hz) rfl) (by kernel_rfl) (by kernel_rfl) ?_
  refine Ops.seg' 1 3 (by kernel_rfl) ?_
  refine Ops.one' 4 (fun h0 e0 => len_g (T := TM) h0 48 76 q ag e75 L (by kernel_rfl)) (by kernel_rfl) (by kernel_rfl) ?_
  refine Ops.one' 5 (fun h0 e0 => mu (h := h0) (q := z) hm (hq_of (g := K) (e0.trans (by kernel_rfl)) hK.map)) (by kernel_rfl) (by kernel_rfl) ?_
  refine Ops.done (by kernel_rfl) ?_
  refine seqH.n ?_
  have hz2 : (K.set 0 (.map ((L ++ [z]).map e75) (ixs (L ++ [z]).length)))[g]? = some (cQ z) := set_keep (Ne.symm hg0) hz
  have hm2 : (K.set 0 (.map ((L ++ [z]).map e75) (ixs (L ++ [z]).length)))[0]? = some (.map ((L ++ [z]).map e75) (ixs (L ++ [z]).length)) := List.getElem?_set_self (lt_of_getElem? hK.map)
  have hl2 : (K.set 0 (.map ((L ++ [z]).map e75) (ixs (L ++ [z]).length)))[q]? = some (AG.o ag 2 (L.map e75)) := set_keep (Ne.symm hK.q0) hK.hl
  have hh2 : (K.set 0 (.map ((L ++ [z]).map e75) (ixs (L ++ [z]).length)))[q']? = some (AG.o ag' 4 (M.map e79)) := set_keep (Ne.symm hK.q0') hK.hm
  have hq0 := hK.q0
  refine Ht.forget (11 :: 12 :: 13 :: KI) (Ht.st (σ' := Sx b al L M ag q ag' q' i j x g out (K.set 0 (.map ((L ++ [z]).map e75) (ixs (L ++ [z]).length)))) (by kernel_rfl) ?_)
  generalize K.set 0 (.map ((L ++ [z]).map e75) (ixs (L ++ [z]).length)) = K2 at hz2 hm2 hl2 hh2 ⊢
  refine Ht.region hxn (by kernel_rfl) ?_
  refine Ops.seg' 1 1 (by kernel_rfl) ?_
  refine Ops.one' 2 (fun h0 e0 => ldc (i := ti76) (h := h0) (r := g) (off := 0) (cs := [dI z.fFit, dI z.fSince]) (d := .v (.agg [vI z.fFit, vI z.fSince])) (hq_of (g := K2) (e0.trans (by kernel_rfl)) hz2) rfl) (by kernel_rfl) (by kernel_rfl) ?_
  refine Ops.seg' 1 3 (by kernel_rfl) ?_
  refine Ops.one' 4 (fun h0 e0 => app_g (T := TM) h0 48 76 q 2 ti76 ag .nonfull e75 L [z] (L ++ [z]) (app_some _ _ _ (by show (L.length + 1) * 16 ≤ _; omega) (by show L.length + 1 ≤ _; omega)) (by kernel_rfl) (by kernel_rfl) (by kernel_rfl) (by kernel_rfl) (fun _ => rfl) (hq_of (g := K2) (e0.trans (by kernel_rfl)) hl2)) (by kernel_rfl) (by kernel_rfl) ?_
  refine Ops.seg' 1 5 (by kernel_rfl) ?_
  refine Ops.done (by kernel_rfl) ?_
  refine seqH.n ?_
  refine Ht.forget (11 :: 12 :: 13 :: KI) (Ht.st (σ' := Sx b al (L ++ [z]) M (ag.app [e75 z]) K2.length ag' q' i j x g out (K2.set q .dead ++ [AG.o (ag.app [e75 z]) 2 ((L ++ [z]).map e75)])) (by kernel_rfl) ?_)
  have hgq : q ≠ g := fun e => by
   subst e
   rw [hz2] at hl2
   cases ag <;> cases hl2
  refine last16 n (p := z) ⟨app_keep (set_keep hq0 hm2), ?_, app_keep (set_dead hl2 hh2 (by decide))⟩ (by simp) (app_keep (set_keep hgq hz2)) hM fun ag' q' G' σ h1 h2 => hQ _ _ _ _ _ _ h1 h2
  rw [show K2.length = (K2.set q AObj.dead).length by simp]
  exact mid_get _ _ _
def IL (m : Nat) (b : S45) (al : List Int) (p : S75) (i : Nat) (goal : List S75 × List S79) : Nat → St → Prop := fun K σ => ∃ (j : Nat) (L : List S75) (M : List S79) (ag : AG) (q : Nat) (ag' : AG) (q' : Nat) (G : List AObj), j + K = al.length ∧ L[i]? = some p ∧ plIn m b p i (al.drop j) L M = some goal ∧ Inv L M ag q ag' q' G ∧ Abs.forget KI σ = Si b al L M ag q ag' q' i j G
theorem adj_get {L : List S75} {z p : S75} {i : Nat} (h : L[i]? = some p) : (adj L z)[i]? = some p := by
 unfold adj
 split
 ·exact h
 ·rw [List.getElem?_append_left (lt_of_getElem? h)]; exact h
theorem w64_nat {j : Nat} (h : j < 1000000000) : w64 ((j : Int) + 1) = ((j + 1 : Nat) : Int) := by rw [w64_id ⟨by omega, by omega⟩]; omega
theorem in16 (n m : Nat) (hn : m + 3 ≤ n) {b : S45} {al : List Int} (hal : al.length < 100000000) {L : List S75} {M : List S79} {ag : AG} {q : Nat} {ag' : AG} {q' : Nat} {i : Nat} {p : S75} (hp : L[i]? = some p) {goal : List S75 × List S79} (hg : plIn m b p i al L M = some goal) {G : List AObj} (hI : Inv L M ag q ag' q' G) {Q : Post}
  (hQ : ∀ ag q ag' q' G' σ, Inv goal.1 goal.2 ag q ag' q' G' → goal.1[i]? = some p → Abs.forget KO σ = So b al goal.1 goal.2 ag q ag' q' i G' → Q .normal σ) :
  Ht False Try.prog IN0 (So b al L M ag q ag' q' i G) Q := by
 have hxn := hxM n
 refine Ht.seq (by kernel_rfl) ?_
 refine Ht.region hxn (by kernel_rfl) ?_
 refine Ops.seg' 1 1 (by kernel_rfl) ?_
 refine Ops.one' 2 (fun h0 e0 => len_r (T := TM) h0 22 3 .plain eI al (by kernel_rfl)) (by kernel_rfl) (by kernel_rfl) ?_
 refine Ops.seg' 1 3 (by kernel_rfl) ?_
 refine Ops.done (by kernel_rfl) ?_
 refine seqH.n ?_
 refine Ht.block 2 (by kernel_rfl) ?_
 refine Ht.loop (IL m b al p i goal) al.length (by kernel_rfl) ⟨0, L, M, ag, q, ag', q', G, by omega, hp, hg, hI, by kernel_rfl⟩ ?_
 clear hI hg hp
 rintro K σ ⟨j, L, M, ag, q, ag', q', G, hj, hp, hg, hI, hσ⟩
 refine Ht.forget KI (Ht.st hσ ?_)
 clear hσ
 refine Ht.seq (by kernel_rfl) ?_
 refine Ht.region hxn (by kernel_rfl) ?_
 refine Ops.seg' 1 1 (by kernel_rfl) ?_
 refine Ops.done (by kernel_rfl) ?_
 refine seqH.n ?_
 refine Ht.seq (by kernel_rfl) ?_
 refine Ht.cond (decide ((j : Int) < (al.length : Int))) (by kernel_rfl) (by kernel_rfl) (fun hc => ?_) (fun hc => ?_)
 case refine_2 =>
  have hc := of_decide_eq_false hc
  have hj : j = al.length := by omega
  rw [hj, List.drop_length] at hg
  have hg : some (L, M) = some goal := hg
  cases hg
  refine Ht.exit (id := 2) (by kernel_rfl) ?_
  show blkH 2 Q (AExit.exit 2) _
  exact blkH.x (hQ _ _ _ _ _ _ hI hp (by kernel_rfl))
 have hc := of_decide_eq_true hc
 have hlt : j < al.length := by omega
 rw [List.drop_eq_getElem_cons hlt] at hg
 have hx : al[j]? = some al[j] := List.getElem?_eq_getElem hlt
 generalize al[j] = x at hg hx
 refine Ht.skip (by kernel_rfl) ?_
 refine seqH.n ?_
 refine Ht.seq (by kernel_rfl) ?_
 refine Ht.block 3 (by kernel_rfl) ?_
 have hg : (match f39 m b p x with
  | none => none
  | some (q, out) => if L.length < 1000000 ∧ M.length < 1000000 then plIn m b p i (al.drop (j + 1)) (adj L q) (M ++ [⟨i, x, ((adj L q).idxOf q : Nat), out⟩]) else none) = some goal := hg
 obtain ⟨z, out, hf⟩ : ∃ z out, f39 m b p x = some (z, out) := by
  cases h : f39 m b p x with
  | none => rw [h] at hg; cases hg
  | some y => exact ⟨y.1, y.2, rfl⟩
 rw [hf] at hg
 have hg : (if L.length < 1000000 ∧ M.length < 1000000 then plIn m b p i (al.drop (j + 1)) (adj L z) (M ++ [⟨i, x, ((adj L z).idxOf z : Nat), out⟩]) else none) = some goal := hg
 split at hg
 case isFalse => cases hg
 rename_i hb
 refine Ht.forget KI (Ht.st (σ' := Si b al L M ag q ag' q' i j G) (by kernel_rfl) ?_)
 refine one16 n m hn hx hp hf hI hb.1 hb.2 fun ag q ag' q' G' σ hI' hσ => ?_
 refine blkH.n ?_
 refine seqH.n ?_
 refine Ht.forget KI (Ht.st hσ ?_)
 refine Ht.region hxn (by kernel_rfl) ?_
 refine Ops.seg' 2 2 (by kernel_rfl) ?_
 refine Ops.done (by kernel_rfl) ?_
 refine ⟨K - 1, by omega, j + 1, _, _, ag, q, ag', q', G', by omega, adj_get hp, hg, hI', ?_⟩
 rw [← w64_nat (by omega)]
 kernel_rfl
def OL (m : Nat) (b : S45) (al : List Int) (goal : List S75 × List S79) : Nat → St → Prop := fun K σ => ∃ (i : Nat) (L : List S75) (M : List S79) (ag : AG) (q : Nat) (ag' : AG) (q' : Nat) (G : List AObj), i + K ≤ 1000000 ∧ plOut m b al K i L M = some goal ∧ Inv L M ag q ag' q' G ∧ Abs.forget KO σ = So b al L M ag q ag' q' i G
theorem out16 (n m : Nat) (hn : m + 3 ≤ n) {b : S45} {al : List Int} (hal : al.length < 100000000) {L : List S75} {M : List S79} {ag : AG} {q : Nat} {ag' : AG} {q' : Nat} {goal : List S75 × List S79} {K0 : Nat} (hK0 : K0 ≤ 1000000) (hg : plOut m b al K0 0 L M = some goal) {G : List AObj} (hI : Inv L M ag q ag' q' G) {Q : Post}
  (hQ : ∀ i ag q ag' q' G' σ, Inv goal.1 goal.2 ag q ag' q' G' → Abs.forget KO σ = So b al goal.1 goal.2 ag q ag' q' i G' → Q (.exit 0) σ) :
  Ht False Try.prog LP0 (So b al L M ag q ag' q' 0 G) Q := by
 have hxn := hxM n
 refine Ht.loop (OL m b al goal) K0 (by kernel_rfl) ⟨0, L, M, ag, q, ag', q', G, by omega, hg, hI, by kernel_rfl⟩ ?_
 clear hI hg
 rintro K σ ⟨i, L, M, ag, q, ag', q', G, hi, hg, hI, hσ⟩
 obtain ⟨K, rfl⟩ : ∃ z, K = z + 1 := by
  cases K with
  | zero => cases hg
  | succ z => exact ⟨z, rfl⟩
 have hg : (match L[i]? with
  | none => some (L, M)
  | some p => match plIn m b p i al L M with
   | none => none
   | some (L', M') => plOut m b al K (i + 1) L' M') = some goal := hg
 refine Ht.forget KO (Ht.st hσ ?_)
 clear hσ
 refine Ht.seq (by kernel_rfl) ?_
 refine Ht.seq (by kernel_rfl) ?_
 refine Ht.region hxn (by kernel_rfl) ?_
 refine Ops.seg' 2 2 (by kernel_rfl) ?_
 refine Ops.one' 3 (fun h0 e0 => len_g (T := TM) h0 48 76 q ag e75 L (by kernel_rfl)) (by kernel_rfl) (by kernel_rfl) ?_
 refine Ops.seg' 1 4 (by kernel_rfl) ?_
 refine Ops.done (by kernel_rfl) ?_
 refine seqH.n ?_
 refine Ht.cond (decide ((i : Int) < (L.length : Int))) (by kernel_rfl) (by kernel_rfl) (fun hc => ?_) (fun hc => ?_)
 case refine_2 =>
  have hc := of_decide_eq_false hc
  rw [List.getElem?_eq_none (by omega)] at hg
  have hg : some (L, M) = some goal := hg
  cases hg
  refine Ht.exit (id := 0) (by kernel_rfl) ?_
  exact hQ i _ _ _ _ _ _ hI (by kernel_rfl)
 have hc := of_decide_eq_true hc
 have hlt : i < L.length := by omega
 have hp := List.getElem?_eq_getElem hlt
 generalize L[i] = p at hp
 rw [hp] at hg
 have hg : (match plIn m b p i al L M with
   | none => none
   | some (L', M') => plOut m b al K (i + 1) L' M') = some goal := hg
 obtain ⟨g1, hg1⟩ : ∃ y, plIn m b p i al L M = some y := by
  cases h : plIn m b p i al L M with
  | none => rw [h] at hg; cases hg
  | some y => exact ⟨y, rfl⟩
 rw [hg1] at hg
 have hg : plOut m b al K (i + 1) g1.1 g1.2 = some goal := hg
 refine Ht.skip (by kernel_rfl) ?_
 refine seqH.n ?_
 refine Ht.seq (by kernel_rfl) ?_
 refine Ht.block 1 (by kernel_rfl) ?_
 refine Ht.forget KO (Ht.st (σ' := So b al L M ag q ag' q' i G) (by kernel_rfl) ?_)
 refine in16 n m hn hal hp hg1 hI fun ag q ag' q' G' σ hI' _ hσ => ?_
 refine blkH.n ?_
 refine seqH.n ?_
 refine Ht.forget KO (Ht.st hσ ?_)
 refine Ht.region hxn (by kernel_rfl) ?_
 refine Ops.seg' 3 3 (by kernel_rfl) ?_
 refine Ops.done (by kernel_rfl) ?_
 refine ⟨K, by omega, i + 1, _, _, ag, q, ag', q', G', by omega, hg, hI', ?_⟩
 rw [← w64_nat (by omega)]
 kernel_rfl
def f16 (m : Nat) (b : S45) (al : List Int) : Option (List S75 × List S79) := if al.length < 100000000 then plOut m b al 1000000 0 [⟨0, 0⟩] [] else none
theorem pl16 (n m : Nat) (hn : m + 3 ≤ n) (b : S45) (al : List Int) (o : List S75 × List S79) (h : f16 m b al = some o) :
  Ht False Try.prog (bodyOf Try.prog 16) (startIn Try.prog 16 [.vptr (bc b), dP eI al] []) (fun e σ => (e = .normal ∨ e = .ret) ∧ ∃ d, resultsD T σ (resOf Try.prog 16) = some d ∧ frz σ.heap 15 d = some (.tuple [eL e75 o.1, eL e79 o.2])) := by
 have hxn := hxM n
 unfold f16 at h
 split at h
 case isFalse => cases h
 rename_i hal
 show Ht False Try.prog C16 _ _
 refine Ht.seq (by kernel_rfl) ?_
 refine Ht.region hxn (by kernel_rfl) ?_
 refine Ops.seg' 2 2 (by kernel_rfl) ?_
 refine Ops.done (by kernel_rfl) ?_
 refine seqH.n ?_
 refine Ht.seq (by kernel_rfl) ?_
 refine Ht.region hxn (by kernel_rfl) ?_
 refine Ops.seg' 3 3 (by kernel_rfl) ?_
 refine Ops.done (by kernel_rfl) ?_
 refine seqH.n ?_
 refine Ht.seq (by kernel_rfl) ?_
 refine Ht.region hxn (by kernel_rfl) ?_
 refine Ops.seg' 5 5 (by kernel_rfl) ?_
 refine Ops.done (by kernel_rfl) ?_
 refine seqH.n ?_
 refine Ht.seq (by kernel_rfl) ?_
 refine Ht.region hxn (by kernel_rfl) ?_
 refine Ops.seg' 1 1 (by kernel_rfl) ?_
 refine Ops.done (by kernel_rfl) ?_
 refine seqH.n ?_
 refine Ht.seq (by kernel_rfl) ?_
 refine Ht.seq (by kernel_rfl) ?_
 refine Ht.region hxn (by kernel_rfl) ?_
 refine Ops.seg' 1 1 (by kernel_rfl) ?_
 refine Ops.done (by kernel_rfl) ?_
 refine seqH.n ?_
 refine Ht.block 0 (by kernel_rfl) ?_
 refine Ht.forget KO (Ht.pad (Ht.st (σ' := So b al [⟨0, 0⟩] [] (.fl .nonfull) 1 (.fl .nil) 1 0 [.map [e75 ⟨0, 0⟩] [dI 0], .dead]) (by kernel_rfl) ?_))
 refine out16 n m hn hal (Nat.le_refl _) h ⟨rfl, rfl, rfl⟩ fun i ag q ag' q' G' σ hI hσ => ?_
 refine blkH.x ?_
 refine seqH.n ?_
 refine Ht.forget KO (Ht.st hσ ?_)
 refine Ht.seq (by kernel_rfl) ?_
 refine Ht.region hxn (by kernel_rfl) ?_
 refine Ops.seg' 4 4 (by kernel_rfl) ?_
 refine Ops.done (by kernel_rfl) ?_
 refine seqH.n ?_
 refine Ht.ret (by kernel_rfl) ?_
 have hr : resOf Try.prog 16 = [.tmp 4, .tmp 5] := by kernel_rfl
 have fin : ∀ σ : St, σ.tmps.getD 4 .undef = AG.d ag q (o.1.map e75) → σ.tmps.getD 5 .undef = AG.d ag' q' (o.2.map e79) → (∃ d, resultsD T σ (resOf Try.prog 16) = some d ∧ frz σ.heap 15 d = some (.tuple [eL e75 o.1, eL e79 o.2])) := fun σ h4 h5 => by
  refine ⟨mkTuple [AG.d ag q (o.1.map e75), AG.d ag' q' (o.2.map e79)], ?_, ?_⟩
  ·rw [hr]; simp only [resultsD, allM, resultD, h4, h5]
  ·cases ag with
   | tok => cases ag' <;> rfl
   | fl f => cases ag' <;> rfl
 exact ⟨.inr rfl, fin _ (by kernel_rfl) (by kernel_rfl)⟩
end Go.Abs.Yb
namespace Go.Abs.Yc
open Go.Sort Go.Proofs Go.Abs.Ya Go.Abs.Yb
set_option linter.unusedVariables false
set_option maxRecDepth 100000
set_option maxHeartbeats 4000000
def decI : V → Option Int
 | .int .i64 n => some n
 | _ => none
theorem decI_e (n : Int) : decI (eI n) = some n := rfl
def decA : V → Option S53
 | .agg [.int .i64 a, .int .i64 b, .int .i64 c, .int .i64 d, .int .i64 e] => some ⟨a, b, c, d, e⟩
 | _ => none
theorem decA_e (x : S53) : decA (e53 x) = some x := rfl
theorem allM_s {α : Type} {f : α → V} {d : V → Option α} (hd : ∀ {v x}, d v = some x → v = f x) : ∀ {vs : List V} {l : List α}, allM d vs = some l → vs = l.map f
 | [], l, h => by cases h; rfl
 | v :: r, l, h => by
  simp only [allM] at h
  cases hv : d v with
  | none => rw [hv] at h; cases h
  | some x =>
   rw [hv] at h
   cases hr : allM d r with
   | none => rw [hr] at h; cases h
   | some l' =>
    rw [hr] at h
    cases h
    rw [hd hv, allM_s hd hr]; rfl
abbrev aC (a : S53) : AObj := .cells [dI a.fFrom, dI a.fTo, dI a.fIn, dI a.fOut, dI a.fWeight]
abbrev rA (q : Nat) (A : List S53) : D := rowF .nil q (A.map e53)
abbrev oA (A : List S53) : AObj := rowO 5 (A.map e53)
abbrev mC (st : Int) (q : Nat) (A : List S53) (fd : D) : AObj := .cells [dI st, rA q A, fd]
def kil (q : Nat) (A : List S53) (h : List AObj) : List AObj := match A with
 | [] => h
 | _ :: _ => h.set q .dead
theorem kil_len (q : Nat) (A : List S53) (h : List AObj) : (kil q A h).length = h.length := by cases A <;> simp [kil]
theorem kil_get {q j : Nat} {A : List S53} {h : List AObj} (hne : A ≠ [] → q ≠ j) : (kil q A h)[j]? = h[j]? := by
 cases A with
 | nil => rfl
 | cons a r => exact List.getElem?_set_ne (hne (List.cons_ne_nil _ _))
def stpH (h : List AObj) (r q : Nat) (a : S53) (st : Int) (A : List S53) (fd : D) : List AObj :=
 ((kil q A ((h ++ [aC a]).set r (mC st q A fd))) ++ [oA (A ++ [a])]).set r (mC st (h.length + 1) (A ++ [a]) fd)
def chH (r : Nat) (fd : D) (to : Int) : List Int → Nat → List S53 → Int → Int → Int → List AObj → List AObj
 | [], q, A, st, fr, lb, h => stpH h r q ⟨fr, to, lb, 0, 0⟩ st A fd
 | [o], q, A, st, fr, lb, h => stpH h r q ⟨fr, to, lb, o, 0⟩ st A fd
 | o :: o2 :: out, q, A, st, fr, lb, h => chH r fd to (o2 :: out) (h.length + 1) (A ++ [⟨fr, st, lb, o, 0⟩]) (st + 1) st 0 (stpH h r q ⟨fr, st, lb, o, 0⟩ (st + 1) A fd)
def chA (to : Int) : List Int → Int → Int → Int → List S53
 | [], st, fr, lb => [⟨fr, to, lb, 0, 0⟩]
 | [o], st, fr, lb => [⟨fr, to, lb, o, 0⟩]
 | o :: o2 :: out, st, fr, lb => ⟨fr, st, lb, o, 0⟩ :: chA to (o2 :: out) (st + 1) st 0
def chS : List Int → Int → Int
 | [], st => st
 | [o], st => st
 | o :: o2 :: out, st => chS (o2 :: out) (st + 1)
structure MInv (r : Nat) (fd : D) (q : Nat) (A : List S53) (st : Int) (G : List AObj) : Prop where
 hr : G[r]? = some (mC st q A fd)
 hq : A ≠ [] → G[q]? = some (oA A)
 ne : A ≠ [] → q ≠ r
theorem stp_len (h : List AObj) (r q : Nat) (a : S53) (st : Int) (A : List S53) (fd : D) : (stpH h r q a st A fd).length = h.length + 2 := by simp [stpH, kil_len]
theorem MInv.stp {r : Nat} {fd : D} {q : Nat} {A : List S53} {st : Int} {G : List AObj} (h : MInv r fd q A st G) (a : S53) (st' : Int) : MInv r fd (G.length + 1) (A ++ [a]) st' (stpH G r q a st' A fd) := by
 have hlt := lt_of_getElem? h.hr
 refine ⟨List.getElem?_set_self (by simp [kil_len]; omega), fun _ => ?_, fun _ => by omega⟩
 unfold stpH
 rw [List.getElem?_set_ne (by omega), List.getElem?_append_right (by simp [kil_len])]
 simp [kil_len]
theorem stp_frame {r q j : Nat} {G : List AObj} (hj : j < G.length) (h1 : j ≠ r) (a : S53) (st : Int) (A : List S53) (fd : D) (h2 : A ≠ [] → j ≠ q) : (stpH G r q a st A fd)[j]? = G[j]? := by
 unfold stpH
 rw [List.getElem?_set_ne (by omega), List.getElem?_append_left (by simp [kil_len]; omega), kil_get fun h => Ne.symm (h2 h), List.getElem?_set_ne (by omega), List.getElem?_append_left hj]
theorem ch_spec {r : Nat} {fd : D} {to : Int} : ∀ {out : List Int} {q : Nat} {A : List S53} {st fr lb : Int} {G : List AObj}, MInv r fd q A st G →
  ∃ q', MInv r fd q' (A ++ chA to out st fr lb) (chS out st) (chH r fd to out q A st fr lb G) ∧ G.length ≤ q' ∧ G.length ≤ (chH r fd to out q A st fr lb G).length ∧ ∀ j, j < G.length → j ≠ r → (A ≠ [] → j ≠ q) → (chH r fd to out q A st fr lb G)[j]? = G[j]?
 | [], q, A, st, fr, lb, G, h => ⟨_, h.stp _ _, by omega, by show _ ≤ (stpH G r q _ _ A fd).length; rw [stp_len]; omega, fun j h1 h2 h3 => stp_frame h1 h2 _ _ _ _ h3⟩
 | [o], q, A, st, fr, lb, G, h => ⟨_, h.stp _ _, by omega, by show _ ≤ (stpH G r q _ _ A fd).length; rw [stp_len]; omega, fun j h1 h2 h3 => stp_frame h1 h2 _ _ _ _ h3⟩
 | o :: o2 :: out, q, A, st, fr, lb, G, h => by
  obtain ⟨q', h1, h2, h3, h4⟩ := ch_spec (to := to) (out := o2 :: out) (fr := st) (lb := 0) (h.stp ⟨fr, st, lb, o, 0⟩ (st + 1))
  rw [stp_len] at h2 h3 h4
  refine ⟨q', ?_, by omega, Nat.le_trans (by omega) h3, fun j g1 g2 g3 => ?_⟩
  ·rw [List.append_assoc] at h1; exact h1
  ·rw [show chH r fd to (o :: o2 :: out) q A st fr lb G = chH r fd to (o2 :: out) (G.length + 1) (A ++ [⟨fr, st, lb, o, 0⟩]) (st + 1) st 0 (stpH G r q ⟨fr, st, lb, o, 0⟩ (st + 1) A fd) from rfl, h4 j (by omega) g2 fun _ => by omega]
   exact stp_frame g1 g2 _ _ _ _ g3
noncomputable def C30 : Code := bodyOf Try.prog 30
noncomputable abbrev LP : Code := cL C30
noncomputable abbrev BL : Code := cL LP
noncomputable abbrev BB : Code := cL BL
noncomputable abbrev E6 : Code := cR (cR (cR BB))
abbrev KC : List Nat := [0, 1, 2, 3, 4]
abbrev Sc (r : Nat) (fr lb : Int) (out : List Int) (to : Int) (G : List AObj) : St := Sm 54 [(0, .ptr r 0), (1, dI fr), (2, dI lb), (3, dP eI out), (4, dI to)] G
abbrev Sd (r : Nat) (fr lb : Int) (out : List Int) (to : Int) (p : Nat) (G : List AObj) : St := Sm 54 [(0, .ptr r 0), (1, dI fr), (2, dI lb), (3, dP eI out), (4, dI to), (10, .ptr p 0)] G
theorem add30 (n : Nat) {r : Nat} {fr lb : Int} {out : List Int} {to : Int} {p : Nat} {K : List AObj} {st : Int} {q : Nat} {A : List S53} {a : S53} {fd : D} (hr : K[r]? = some (mC st q A fd)) (hq : A ≠ [] → K[q]? = some (oA A)) (hne : A ≠ [] → q ≠ r) (hp : K[p]? = some (aC a)) (hA : A.length < 1000000) {Q : Post}
  (hQ : ∀ σ, Abs.forget (10 :: KC) σ = Sd r fr lb out to p ((kil q A K ++ [oA (A ++ [a])]).set r (mC st K.length (A ++ [a]) fd)) → Q .normal σ) :
  Ht False Try.prog (cL E6) (Sd r fr lb out to p K) Q := by
 have hxn := hxR n
 cases A with
 | nil =>
  refine Ht.region hxn (by kernel_rfl) ?_
  refine Ops.seg' 4 4 (by kernel_rfl) ?_
  refine Ops.one' 5 (fun h0 e0 => ldc (i := ti26) (h := h0) (r := r) (off := 1) (cs := [dI st, rA q [], fd]) (d := rA q []) (hq_of (g := K) (e0.trans (by kernel_rfl)) hr) rfl) (by kernel_rfl) (by kernel_rfl) ?_
  refine Ops.one' 6 (fun h0 e0 => ldc (i := ti54) (h := h0) (r := p) (off := 0) (cs := [dI a.fFrom, dI a.fTo, dI a.fIn, dI a.fOut, dI a.fWeight]) (d := .v (e53 a)) (hq_of (g := K) (e0.trans (by kernel_rfl)) hp) rfl) (by kernel_rfl) (by kernel_rfl) ?_
  refine Ops.seg' 1 7 (by kernel_rfl) ?_
  refine Ops.one' 8 (fun h0 e0 => row_n (T := TM) (g := .nil) h0 26 54 ti54 .nonfull e53 [a] [a] (app_some _ [] [a] (by show (0 + 1) * 40 ≤ _; omega) (by show 0 + 1 ≤ _; omega)) (by kernel_rfl) (by kernel_rfl) (by kernel_rfl) (by kernel_rfl) (fun _ => rfl)) (by kernel_rfl) (by kernel_rfl) ?_
  refine Ops.seg' 2 10 (by kernel_rfl) ?_
  refine Ops.one' 11 (fun h0 e0 => st_l (i := ti26) (h := h0) (r := r) (off := 1) (cs := [dI st, rA q [], fd]) (cs' := [dI st, rA K.length [a], fd]) (x := rA K.length [a]) (hq_of (g := K ++ [oA [a]]) (e0.trans (by kernel_rfl)) (app_keep hr)) rfl (rowF_one _ _ _) rfl) (by kernel_rfl) (by kernel_rfl) ?_
  refine Ops.done (by kernel_rfl) ?_
  exact hQ _ (by kernel_rfl)
 | cons a0 A =>
  refine Ht.region hxn (by kernel_rfl) ?_
  refine Ops.seg' 4 4 (by kernel_rfl) ?_
  refine Ops.one' 5 (fun h0 e0 => ldc (i := ti26) (h := h0) (r := r) (off := 1) (cs := [dI st, rA q (a0 :: A), fd]) (d := rA q (a0 :: A)) (hq_of (g := K) (e0.trans (by kernel_rfl)) hr) rfl) (by kernel_rfl) (by kernel_rfl) ?_
  refine Ops.one' 6 (fun h0 e0 => ldc (i := ti54) (h := h0) (r := p) (off := 0) (cs := [dI a.fFrom, dI a.fTo, dI a.fIn, dI a.fOut, dI a.fWeight]) (d := .v (e53 a)) (hq_of (g := K) (e0.trans (by kernel_rfl)) hp) rfl) (by kernel_rfl) (by kernel_rfl) ?_
  refine Ops.seg' 1 7 (by kernel_rfl) ?_
  refine Ops.one' 8 (fun h0 e0 => row_app (T := TM) (g := .nil) h0 26 54 q ti54 .nonfull e53 (a0 :: A) [a] ((a0 :: A) ++ [a]) (app_some _ _ _ (by show ((a0 :: A).length + 1) * 40 ≤ _; simp only [List.length_cons] at hA ⊢; omega) (by show (a0 :: A).length + 1 ≤ _; simp only [List.length_cons] at hA ⊢; omega)) (by kernel_rfl) (by kernel_rfl) (by kernel_rfl) (by kernel_rfl) (fun _ => rfl) (hq_of (g := K) (e0.trans (by kernel_rfl)) (hq (List.cons_ne_nil _ _)))) (by kernel_rfl) (by kernel_rfl) ?_
  refine Ops.seg' 2 10 (by kernel_rfl) ?_
  refine Ops.one' 11 (fun h0 e0 => st_l (i := ti26) (h := h0) (r := r) (off := 1) (cs := [dI st, rA q (a0 :: A), fd]) (cs' := [dI st, rA K.length ((a0 :: A) ++ [a]), fd]) (x := rA K.length ((a0 :: A) ++ [a])) (hq_of (g := K.set q .dead ++ [oA ((a0 :: A) ++ [a])]) (e0.trans (by kernel_rfl)) (app_keep (set_keep (hne (List.cons_ne_nil _ _)) hr))) rfl (rowF_one _ _ _) rfl) (by kernel_rfl) (by kernel_rfl) ?_
  refine Ops.done (by kernel_rfl) ?_
  exact hQ _ (by kernel_rfl)
theorem step30 (n : Nat) {r : Nat} {fr lb : Int} {out : List Int} {to : Int} {G : List AObj} {st : Int} {q : Nat} {A : List S53} {fd : D} (hI : MInv r fd q A st G) (hA : A.length < 1000000) (hs : 0 ≤ st ∧ st < 1000000000) (ho : out.length < 1000000) {Q : Post}
  (hQ1 : ∀ x, out = [] ∨ out = [x] → ∀ σ, σ.heap = chH r fd to out q A st fr lb G → Q .ret σ)
  (hQ2 : ∀ o o2 out', out = o :: o2 :: out' → ∀ σ, Abs.forget KC σ = Sc r st 0 (o2 :: out') to (stpH G r q ⟨fr, st, lb, o, 0⟩ (st + 1) A fd) → Q .normal σ) :
  Ht False Try.prog BB (Sc r fr lb out to G) Q := by
 have hxn := hxM n
 have hlt := lt_of_getElem? hI.hr
 have hK : ∀ c, (G ++ [AObj.cells c])[r]? = some (mC st q A fd) := fun c => app_keep hI.hr
 have hKq : ∀ c, A ≠ [] → (G ++ [AObj.cells c])[q]? = some (oA A) := fun c h => app_keep (hI.hq h)
 refine Ht.seq (by kernel_rfl) ?_
 refine Ht.region hxn (by kernel_rfl) ?_
 refine Ops.seg' 5 5 (by kernel_rfl) ?_
 refine Ops.one' 6 (fun h0 e0 => stc (i := ti54) (h := h0) (r := G.length) (off := 0) (cs := [dI 0, dI 0, dI 0, dI 0, dI 0]) (cs' := [dI fr, dI to, dI lb, dI 0, dI 0]) (x := .v (e53 ⟨fr, to, lb, 0, 0⟩)) (hq_of (g := G ++ [.cells [dI 0, dI 0, dI 0, dI 0, dI 0]]) (e0.trans (by kernel_rfl)) (mid_get G _ _)) rfl rfl) (by kernel_rfl) (by kernel_rfl) ?_
 refine Ops.done (by kernel_rfl) ?_
 refine seqH.n ?_
 refine Ht.forget (10 :: KC) (Ht.st (σ' := Sd r fr lb out to G.length (G ++ [aC ⟨fr, to, lb, 0, 0⟩])) (by rw [← mid_set G (.cells [dI 0, dI 0, dI 0, dI 0, dI 0])]; kernel_rfl) ?_)
 have fin : ∀ (a : S53) (σ : St), Abs.forget (10 :: KC) σ = Sd r fr lb [] to G.length ((kil q A (G ++ [aC a]) ++ [oA (A ++ [a])]).set r (mC st (G ++ [aC a]).length (A ++ [a]) fd)) → σ.heap = stpH G r q a st A fd := fun a σ hσ => by
  have : σ.heap = (kil q A (G ++ [aC a]) ++ [oA (A ++ [a])]).set r (mC st (G ++ [aC a]).length (A ++ [a]) fd) := congrArg St.heap hσ
  rw [this]
  unfold stpH
  rw [set_same (hK _), List.length_append, List.length_singleton]
 cases out with
 | nil =>
  refine Ht.seq (by kernel_rfl) ?_
  refine Ht.seq (by kernel_rfl) ?_
  refine Ht.region hxn (by kernel_rfl) ?_
  refine Ops.seg' 3 3 (by kernel_rfl) ?_
  refine Ops.done (by kernel_rfl) ?_
  refine seqH.n ?_
  refine Ht.cond false (by kernel_rfl) (by kernel_rfl) (fun hc => nomatch hc) (fun _ => ?_)
  refine Ht.skip (by kernel_rfl) ?_
  refine seqH.n ?_
  refine Ht.seq (by kernel_rfl) ?_
  refine Ht.seq (by kernel_rfl) ?_
  refine Ht.region hxn (by kernel_rfl) ?_
  refine Ops.seg' 3 3 (by kernel_rfl) ?_
  refine Ops.done (by kernel_rfl) ?_
  refine seqH.n ?_
  refine Ht.cond false (by kernel_rfl) (by kernel_rfl) (fun hc => nomatch hc) (fun _ => ?_)
  refine Ht.skip (by kernel_rfl) ?_
  refine seqH.n ?_
  refine Ht.seq (by kernel_rfl) ?_
  refine Ht.forget (10 :: KC) (Ht.st (σ' := Sd r fr lb [] to G.length (G ++ [aC ⟨fr, to, lb, 0, 0⟩])) (by kernel_rfl) ?_)
  refine add30 n (a := ⟨fr, to, lb, 0, 0⟩) (hK _) (hKq _) hI.ne (mid_get _ _ _) hA fun σ hσ => ?_
  refine seqH.n ?_
  have hh := fin _ σ hσ
  refine Ht.forget (10 :: KC) (Ht.st hσ ?_)
  refine Ht.seq (by kernel_rfl) ?_
  refine Ht.seq (by kernel_rfl) ?_
  refine Ht.region hxn (by kernel_rfl) ?_
  refine Ops.seg' 3 3 (by kernel_rfl) ?_
  refine Ops.done (by kernel_rfl) ?_
  refine seqH.n ?_
  refine Ht.cond true (by kernel_rfl) (by kernel_rfl) (fun _ => ?_) (fun hc => nomatch hc)
  refine Ht.ret (by kernel_rfl) ?_
  refine hQ1 0 (.inl rfl) _ ?_
  show _ = stpH G r q ⟨fr, to, lb, 0, 0⟩ st A fd
  rw [← hh]
  exact (congrArg St.heap hσ).symm
 | cons o out =>
  have hdr : sub (o :: out) 1 ((o :: out).length : Int) = some out := by
   unfold sub
   rw [if_pos ⟨by omega, by simp only [List.length_cons]; omega, by omega⟩]
   simp
  refine Ht.seq (by kernel_rfl) ?_
  refine Ht.seq (by kernel_rfl) ?_
  refine Ht.region hxn (by kernel_rfl) ?_
  refine Ops.seg' 1 1 (by kernel_rfl) ?_
  refine Ops.one' 2 (fun h0 e0 => len_r (T := TM) h0 22 3 .plain eI (o :: out) (by kernel_rfl)) (by kernel_rfl) (by kernel_rfl) ?_
  refine Ops.seg' 1 3 (by kernel_rfl) ?_
  refine Ops.done (by kernel_rfl) ?_
  refine seqH.n ?_
  refine Ht.cond (decide (((o :: out).length : Int) > 0)) (by kernel_rfl) (by kernel_rfl) (fun _ => ?_) (fun hc => absurd (of_decide_eq_false hc) (by simp))
  refine Ht.regionF hxn (by kernel_rfl) ?_
  refine Ops.seg' 4 4 (by kernel_rfl) ?_
  refine Ops.one' 5 (fun h0 e0 => sub_r (T := TM) h0 22 3 1 .plain eI (o :: out) out (some 1) none rfl hdr (by kernel_rfl) (by kernel_rfl) (fun _ => rfl)) (by kernel_rfl) (by kernel_rfl) ?_
  refine Ops.seg' 1 6 (by kernel_rfl) ?_
  refine Ops.one' 7 (fun h0 e0 => stc (i := ti3) (h := h0) (r := G.length) (off := 3) (cs := [dI fr, dI to, dI lb, dI 0, dI 0]) (cs' := [dI fr, dI to, dI lb, dI o, dI 0]) (x := dI o) (hq_of (g := G ++ [aC ⟨fr, to, lb, 0, 0⟩]) (e0.trans (by kernel_rfl)) (mid_get G _ _)) rfl rfl) (by kernel_rfl) (by kernel_rfl) ?_
  refine Ops.seg' 1 8 (by kernel_rfl) ?_
  refine Ops.done (by kernel_rfl) ?_
  refine seqH.n ?_
  refine Ht.forget (10 :: KC) (Ht.st (σ' := Sd r fr lb out to G.length (G ++ [aC ⟨fr, to, lb, o, 0⟩])) (by rw [← mid_set G (aC ⟨fr, to, lb, 0, 0⟩) (aC ⟨fr, to, lb, o, 0⟩) []]; kernel_rfl) ?_)
  cases out with
  | nil =>
   refine Ht.seq (by kernel_rfl) ?_
   refine Ht.seq (by kernel_rfl) ?_
   refine Ht.region hxn (by kernel_rfl) ?_
   refine Ops.seg' 3 3 (by kernel_rfl) ?_
   refine Ops.done (by kernel_rfl) ?_
   refine seqH.n ?_
   refine Ht.cond false (by kernel_rfl) (by kernel_rfl) (fun hc => nomatch hc) (fun _ => ?_)
   refine Ht.skip (by kernel_rfl) ?_
   refine seqH.n ?_
   refine Ht.seq (by kernel_rfl) ?_
   refine Ht.forget (10 :: KC) (Ht.st (σ' := Sd r fr lb [] to G.length (G ++ [aC ⟨fr, to, lb, o, 0⟩])) (by kernel_rfl) ?_)
   refine add30 n (a := ⟨fr, to, lb, o, 0⟩) (hK _) (hKq _) hI.ne (mid_get _ _ _) hA fun σ hσ => ?_
   refine seqH.n ?_
   have hh := fin _ σ hσ
   refine Ht.forget (10 :: KC) (Ht.st hσ ?_)
   refine Ht.seq (by kernel_rfl) ?_
   refine Ht.seq (by kernel_rfl) ?_
   refine Ht.region hxn (by kernel_rfl) ?_
   refine Ops.seg' 3 3 (by kernel_rfl) ?_
   refine Ops.done (by kernel_rfl) ?_
   refine seqH.n ?_
   refine Ht.cond true (by kernel_rfl) (by kernel_rfl) (fun _ => ?_) (fun hc => nomatch hc)
   refine Ht.ret (by kernel_rfl) ?_
   refine hQ1 o (.inr rfl) _ ?_
   show _ = stpH G r q ⟨fr, to, lb, o, 0⟩ st A fd
   rw [← hh]
   exact (congrArg St.heap hσ).symm
  | cons o2 out =>
   have hwst : w64 (st + 1) = st + 1 := w64_id ⟨by omega, by omega⟩
   refine Ht.seq (by kernel_rfl) ?_
   refine Ht.seq (by kernel_rfl) ?_
   refine Ht.region hxn (by kernel_rfl) ?_
   refine Ops.seg' 1 1 (by kernel_rfl) ?_
   refine Ops.one' 2 (fun h0 e0 => len_r (T := TM) h0 22 3 .plain eI (o2 :: out) (by kernel_rfl)) (by kernel_rfl) (by kernel_rfl) ?_
   refine Ops.seg' 1 3 (by kernel_rfl) ?_
   refine Ops.done (by kernel_rfl) ?_
   refine seqH.n ?_
   refine Ht.cond (decide (((o2 :: out).length : Int) > 0)) (by kernel_rfl) (by kernel_rfl) (fun _ => ?_) (fun hc => absurd (of_decide_eq_false hc) (by simp))
   refine Ht.seq (by kernel_rfl) ?_
   refine Ht.region hxn (by kernel_rfl) ?_
   refine Ops.seg' 3 3 (by kernel_rfl) ?_
   refine Ops.one' 4 (fun h0 e0 => ldc (i := ti3) (h := h0) (r := r) (off := 0) (cs := [dI st, rA q A, fd]) (d := dI st) (hq_of (g := G ++ [aC ⟨fr, to, lb, o, 0⟩]) (e0.trans (by kernel_rfl)) (hK _)) rfl) (by kernel_rfl) (by kernel_rfl) ?_
   refine Ops.seg' 1 5 (by kernel_rfl) ?_
   refine Ops.one' 6 (fun h0 e0 => stc (i := ti3) (h := h0) (r := G.length) (off := 1) (cs := [dI fr, dI to, dI lb, dI o, dI 0]) (cs' := [dI fr, dI st, dI lb, dI o, dI 0]) (x := dI st) (hq_of (g := G ++ [aC ⟨fr, to, lb, o, 0⟩]) (e0.trans (by kernel_rfl)) (mid_get G _ _)) rfl rfl) (by kernel_rfl) (by kernel_rfl) ?_
   refine Ops.done (by kernel_rfl) ?_
   refine seqH.n ?_
   refine Ht.forget (10 :: KC) (Ht.st (σ' := Sd r fr lb (o2 :: out) to G.length (G ++ [aC ⟨fr, st, lb, o, 0⟩])) (by rw [← mid_set G (aC ⟨fr, to, lb, o, 0⟩) (aC ⟨fr, st, lb, o, 0⟩) []]; kernel_rfl) ?_)
   refine Ht.region hxn (by kernel_rfl) ?_
   refine Ops.seg' 3 3 (by kernel_rfl) ?_
   refine Ops.one' 4 (fun h0 e0 => ldc (i := ti3) (h := h0) (r := r) (off := 0) (cs := [dI st, rA q A, fd]) (d := dI st) (hq_of (g := G ++ [aC ⟨fr, st, lb, o, 0⟩]) (e0.trans (by kernel_rfl)) (hK _)) rfl) (by kernel_rfl) (by kernel_rfl) ?_
   refine Ops.seg' 3 7 (by kernel_rfl) ?_
   refine Ops.one' 8 (fun h0 e0 => stc (i := ti3) (h := h0) (r := r) (off := 0) (cs := [dI st, rA q A, fd]) (cs' := [dI (w64 (st + 1)), rA q A, fd]) (x := dI (w64 (st + 1))) (hq_of (g := G ++ [aC ⟨fr, st, lb, o, 0⟩]) (e0.trans (by kernel_rfl)) (hK _)) rfl rfl) (by kernel_rfl) (by kernel_rfl) ?_
   refine Ops.done (by kernel_rfl) ?_
   refine seqH.n ?_
   refine Ht.forget (10 :: KC) (Ht.st (σ' := Sd r fr lb (o2 :: out) to G.length ((G ++ [aC ⟨fr, st, lb, o, 0⟩]).set r (mC (st + 1) q A fd))) (by rw [hwst]; kernel_rfl) ?_)
   refine Ht.seq (by kernel_rfl) ?_
   have e1 : ((G ++ [aC ⟨fr, st, lb, o, 0⟩]).set r (mC (st + 1) q A fd))[r]? = some (mC (st + 1) q A fd) := List.getElem?_set_self (by simp; omega)
   have e2 : A ≠ [] → ((G ++ [aC ⟨fr, st, lb, o, 0⟩]).set r (mC (st + 1) q A fd))[q]? = some (oA A) := fun h => set_keep (Ne.symm (hI.ne h)) (hKq _ h)
   have e3 : ((G ++ [aC ⟨fr, st, lb, o, 0⟩]).set r (mC (st + 1) q A fd))[G.length]? = some (aC ⟨fr, st, lb, o, 0⟩) := set_keep (by omega) (mid_get _ _ _)
   refine add30 n (a := ⟨fr, st, lb, o, 0⟩) e1 e2 hI.ne e3 hA fun σ hσ => ?_
   have hln : ((G ++ [aC ⟨fr, st, lb, o, 0⟩]).set r (mC (st + 1) q A fd)).length = G.length + 1 := by simp
   rw [hln] at hσ
   have hσ : Abs.forget (10 :: KC) σ = Sd r fr lb (o2 :: out) to G.length (stpH G r q ⟨fr, st, lb, o, 0⟩ (st + 1) A fd) := hσ
   have e4 : (stpH G r q ⟨fr, st, lb, o, 0⟩ (st + 1) A fd)[G.length]? = some (aC ⟨fr, st, lb, o, 0⟩) := by
    unfold stpH
    rw [List.getElem?_set_ne (by omega), List.getElem?_append_left (by simp [kil_len]), kil_get fun h => ?_]
    ·exact e3
    ·have := lt_of_getElem? (hI.hq h)
     omega
   refine seqH.n ?_
   refine Ht.forget (10 :: KC) (Ht.st hσ ?_)
   generalize stpH G r q ⟨fr, st, lb, o, 0⟩ (st + 1) A fd = K2 at e4 hQ2 ⊢
   refine Ht.seq (by kernel_rfl) ?_
   refine Ht.seq (by kernel_rfl) ?_
   refine Ht.region hxn (by kernel_rfl) ?_
   refine Ops.seg' 1 1 (by kernel_rfl) ?_
   refine Ops.one' 2 (fun h0 e0 => len_r (T := TM) h0 22 3 .plain eI (o2 :: out) (by kernel_rfl)) (by kernel_rfl) (by kernel_rfl) ?_
   refine Ops.seg' 1 3 (by kernel_rfl) ?_
   refine Ops.done (by kernel_rfl) ?_
   refine seqH.n ?_
   refine Ht.cond (((o2 :: out).length : Int) == 0) (by kernel_rfl) (by kernel_rfl) (fun hc => absurd (eq_of_beq hc) (by simp; omega)) (fun _ => ?_)
   refine Ht.skip (by kernel_rfl) ?_
   refine seqH.n ?_
   refine Ht.region hxn (by kernel_rfl) ?_
   refine Ops.seg' 1 1 (by kernel_rfl) ?_
   refine Ops.one' 2 (fun h0 e0 => ldc (i := ti3) (h := h0) (r := G.length) (off := 1) (cs := [dI fr, dI st, dI lb, dI o, dI 0]) (d := dI st) (hq_of (g := K2) (e0.trans (by kernel_rfl)) e4) rfl) (by kernel_rfl) (by kernel_rfl) ?_
   refine Ops.seg' 2 4 (by kernel_rfl) ?_
   refine Ops.done (by kernel_rfl) ?_
   exact hQ2 o o2 out rfl _ (by kernel_rfl)
def CL (r : Nat) (fd : D) (to : Int) (goal : List AObj) : Nat → St → Prop := fun K σ => ∃ (fr lb : Int) (out : List Int) (G : List AObj) (st : Int) (q : Nat) (A : List S53), K = out.length ∧ MInv r fd q A st G ∧ A.length + out.length < 1000000 ∧ (0 ≤ st ∧ st + out.length < 1000000000) ∧ chH r fd to out q A st fr lb G = goal ∧ Abs.forget KC σ = Sc r fr lb out to G
theorem call30 (n : Nat) {r : Nat} {fr lb : Int} {out : List Int} {to : Int} {G : List AObj} {st : Int} {q : Nat} {A : List S53} {fd : D} (hI : MInv r fd q A st G) (hA : A.length + out.length < 1000000) (hs : 0 ≤ st ∧ st + out.length < 1000000000) :
  CallT False Try.prog 30 [.ptr r 0, dI fr, dI lb, dP eI out, dI to] G fun d h' => d = U ∧ h' = chH r fd to out q A st fr lb G := by
 have hr : resOf Try.prog 30 = [] := by kernel_rfl
 refine callT_of_ht (c := bodyOf Try.prog 30) (T := TM) Try.func30 (by kernel_rfl) TM_ok ?_
 show Ht False Try.prog C30 _ _
 refine Ht.block 0 (by kernel_rfl) ?_
 refine Ht.loop (CL r fd to (chH r fd to out q A st fr lb G)) out.length (by kernel_rfl) ⟨fr, lb, out, G, st, q, A, rfl, hI, hA, hs, rfl, by kernel_rfl⟩ ?_
 rintro K σ ⟨fr1, lb1, out1, G1, st1, q1, A1, rfl, hI1, hA1, hs1, hg, hσ⟩
 refine Ht.forget KC (Ht.st hσ ?_)
 refine Ht.block 1 (by kernel_rfl) ?_
 refine step30 n hI1 (by omega) (by omega) (by omega) (fun x ho σ hσ => ?_) (fun o o2 out' ho σ2 hσ2 => ?_)
 ·refine ⟨.inr rfl, U, ?_, rfl, ?_⟩
  ·rw [hr]; rfl
  ·rw [hσ, hg]
 ·subst ho
  refine blkH.n ?_
  simp only [List.length_cons] at hA1 hs1 hg ⊢
  refine ⟨(o2 :: out').length, by simp only [List.length_cons]; omega, st1, 0, o2 :: out', _, st1 + 1, _, _, rfl, hI1.stp _ _, ?_, ?_, hg, hσ2⟩
  ·simp only [List.length_append, List.length_cons, List.length_nil]; omega
  ·simp only [List.length_cons]; omega
end Go.Abs.Yc
namespace Go.Abs.Yd
open Go.Sort Go.Proofs Go.Abs.Ya Go.Abs.Yb Go.Abs.Yc
set_option linter.unusedVariables false
set_option maxRecDepth 100000
set_option maxHeartbeats 4000000
noncomputable def gI (n f0 : Nat) (ds0 : List D) (h0 : List AObj) (d0 : D) (h1 : List AObj) : Calling := fun f ds h => @ite _ (f = f0 ∧ ds = ds0 ∧ h = h0) (Classical.propDecidable _) (some (d0, h1)) (run Try.prog E n f ds h)
noncomputable def XI (row : Bool) (n f0 : Nat) (ds0 : List D) (h0 : List AObj) (d0 : D) (h1 : List AObj) : Cx := ⟨{ E with T := TM, rowM := row, dynP := false, pureF := fun f => E.pureF f && !(f == f0) }, gI n f0 ds0 h0 d0 h1, ⟨fun _ => [], fun _ => [], fun _ => []⟩, [], n⟩
theorem hxI (row : Bool) (n : Nat) {f0 : Nat} {ds0 : List D} {h0 : List AObj} {d0 : D} {h1 : List AObj} (hIs : Is Try.prog f0) (hc : CallT False Try.prog f0 ds0 h0 fun d h' => d = d0 ∧ h' = h1) : Hx False Try.prog (XI row n f0 ds0 h0 d0 h1) := by
 refine ⟨good.mixed, TM_ok, fun f ds h d h' hh => ?_⟩
 have hh2 : @ite _ (f = f0 ∧ ds = ds0 ∧ h = h0) (Classical.propDecidable _) (some (d0, h1)) (run Try.prog E n f ds h) = some (d, h') := hh
 clear hh
 by_cases e : f = f0 ∧ ds = ds0 ∧ h = h0
 ·rw [if_pos e] at hh2
  obtain ⟨rfl, rfl, rfl⟩ := e
  cases hh2
  refine ⟨hIs, fun S β w vs hr hi => (hc S β w vs hr hi).mono ?_⟩
  rintro e w' ⟨d, h', v, S', β', ⟨rfl, rfl⟩, h2⟩
  exact ⟨v, S', β', h2⟩
 ·rw [if_neg e] at hh2
  exact run_sound good n f ds h d h' hh2
theorem callI {row : Bool} {n f0 : Nat} {ds0 : List D} {h0 : List AObj} {d0 : D} {h1 : List AObj} {ds : List D} {h : List AObj} (e1 : ds = ds0) (e2 : h = h0) (ho : E.ownR f0 = none) (hl : E.lend f0 = none) : callD (XI row n f0 ds0 h0 d0 h1).E (XI row n f0 ds0 h0 d0 h1).Γ f0 ds h = some (d0, h1) := by
 have hp : (XI row n f0 ds0 h0 d0 h1).E.pureF f0 = false := by show (E.pureF f0 && !(f0 == f0)) = false; simp
 have ho : (XI row n f0 ds0 h0 d0 h1).E.ownR f0 = none := ho
 have hl : (XI row n f0 ds0 h0 d0 h1).E.lend f0 = none := hl
 simp only [callD, hp, Bool.false_eq_true, if_false, ho, hl]
 exact if_pos ⟨rfl, e1, e2⟩
theorem callI_ok {row : Bool} {n f0 : Nat} {ds0 : List D} {h0 : List AObj} {d0 : D} {h1 : List AObj} {f : Nat} {ds xs : List D} {h : List AObj} {r : V} (hne : f ≠ f0) (hp : E.pureF f = true) (ha : Args h ds xs) (hF : Fn Try.prog E n f xs r) : callD (XI row n f0 ds0 h0 d0 h1).E (XI row n f0 ds0 h0 d0 h1).Γ f ds h = some (.v r, h) := by
 have hp : (XI row n f0 ds0 h0 d0 h1).E.pureF f = true := by show (E.pureF f && !(f == f0)) = true; simp [hp, hne]
 have hg : ∀ vs, (XI row n f0 ds0 h0 d0 h1).Γ f vs [] = run Try.prog E n f vs [] := fun vs => if_neg fun e => hne e.1
 obtain ⟨d, h', h1, h2⟩ := hF
 obtain ⟨a1, a2⟩ := ha.spec
 simp only [callD, hp, if_true, a1, hg, h1, h2, a2, Bool.true_or]
theorem is30 : Is Try.prog 30 := ⟨Try.f30, Try.func30, by kernel_rfl, by kernel_rfl⟩
theorem is29 : Is Try.prog 29 := ⟨Try.f29, Try.func29, by kernel_rfl, by kernel_rfl⟩
abbrev zM : AObj := .cells [dI 0, .v (.sl .nil []), .v (.sl .nil [])]
abbrev rF (q : Nat) (F : List S58) : D := rowF .nil q (F.map e58)
abbrev rW (W : List Int) : D := rowF .nil 4 (W.map eI)
structure FInv (b : S45) (L : List S75) (W : List Int) (q : Nat) (A : List S53) (st : Int) (qf : Nat) (F : List S58) (G : List AObj) : Prop where
 g0 : G[0]? = some (.cells [.vptr (bc b)])
 g1 : G[1]? = some (.cells [dP e75 L])
 g2 : G[2]? = some zM
 m : MInv 3 (rF qf F) q A st G
 g4 : G[4]? = some (rowO 1 (W.map eI))
 g5 : G[5]? = some (.cells [rW W])
 q6 : A ≠ [] → 6 ≤ q
 f6 : F ≠ [] → 6 ≤ qf
 hf : F ≠ [] → G[qf]? = some (rowO 2 (F.map e58))
theorem row_ne {k k' : Nat} {xs ys : List V} (hk : k ≠ k') (hx : xs ≠ []) (hy : ys ≠ []) : rowO k xs ≠ rowO k' ys := by
 cases xs with
 | nil => exact absurd rfl hx
 | cons x xs => cases ys with
  | nil => exact absurd rfl hy
  | cons y ys => intro h; simp only [rowO, AObj.row.injEq] at h; exact hk h.1
theorem FInv.qq {b L W q A st qf F G} (h : FInv b L W q A st qf F G) (hA : A ≠ []) (hF : F ≠ []) : qf ≠ q := fun e => by
 have h1 := h.hf hF
 rw [e, h.m.hq hA] at h1
 exact row_ne (by decide) (by simpa using hA) (by simpa using hF) (Option.some.inj h1)
theorem FInv.app {b L W q A st qf F G} (h : FInv b L W q A st qf F G) (l : List AObj) : FInv b L W q A st qf F (G ++ l) :=
 ⟨app_keep h.g0, app_keep h.g1, app_keep h.g2, ⟨app_keep h.m.hr, fun e => app_keep (h.m.hq e), h.m.ne⟩, app_keep h.g4, app_keep h.g5, h.q6, h.f6, fun e => app_keep (h.hf e)⟩
theorem FInv.ch {b L W q A st qf F G} (h : FInv b L W q A st qf F G) (hG : 6 ≤ G.length) (to : Int) (out : List Int) (fr lb : Int) :
  ∃ q', FInv b L W q' (A ++ chA to out st fr lb) (chS out st) qf F (chH 3 (rF qf F) to out q A st fr lb G) ∧ G.length ≤ (chH 3 (rF qf F) to out q A st fr lb G).length := by
 obtain ⟨q', h1, h2, h3, h4⟩ := ch_spec (to := to) (out := out) (fr := fr) (lb := lb) h.m
 have k : ∀ (j : Nat) (o : AObj), j < 6 → j ≠ 3 → G[j]? = some o → (chH 3 (rF qf F) to out q A st fr lb G)[j]? = some o := fun j o hj h3 ho => by
  rw [h4 j (by omega) h3 (fun e => by have := h.q6 e; omega)]; exact ho
 refine ⟨q', ⟨k 0 _ (by omega) (by omega) h.g0, k 1 _ (by omega) (by omega) h.g1, k 2 _ (by omega) (by omega) h.g2, h1, k 4 _ (by omega) (by omega) h.g4, k 5 _ (by omega) (by omega) h.g5, fun _ => by omega, h.f6, fun e => ?_⟩, h3⟩
 rw [h4 qf (lt_of_getElem? (h.hf e)) (by have := h.f6 e; omega) fun ea => h.qq ea e]
 exact h.hf e
def wrH (i : Nat) (W : List Int) (q : Nat) (A : List S53) (st : Int) (fd : D) (G : List AObj) : List AObj := (G.set 4 (rowO 1 ((W.set i st).map eI))).set 3 (mC (st + 1) q A fd)
theorem FInv.wr {b L W q A st qf F G} (h : FInv b L W q A st qf F G) {i : Nat} (hi : i < W.length) : FInv b L (W.set i st) q A (st + 1) qf F (wrH i W q A st (rF qf F) G) := by
 have k : ∀ (j : Nat) (o : AObj), j ≠ 3 → j ≠ 4 → G[j]? = some o → (wrH i W q A st (rF qf F) G)[j]? = some o := fun j o h3 h4 ho => set_keep (Ne.symm h3) (set_keep (Ne.symm h4) ho)
 have hrw : rW (W.set i st) = rW W := (upd_row (g := .nil) (f := eI) (q := 4) (l := W) (zs := W.set i st) (i := (i : Int)) (x := st) (by unfold upd; exact if_pos ⟨by omega, by simpa using hi⟩)).symm
 refine ⟨k 0 _ (by omega) (by omega) h.g0, k 1 _ (by omega) (by omega) h.g1, k 2 _ (by omega) (by omega) h.g2, ⟨?_, fun e => k _ _ ?_ ?_ (h.m.hq e), h.m.ne⟩, ?_, by rw [hrw]; exact k 5 _ (by omega) (by omega) h.g5, h.q6, h.f6, fun e => k _ _ ?_ ?_ (h.hf e)⟩
 ·exact List.getElem?_set_self (by rw [List.length_set]; exact lt_of_getElem? h.m.hr)
 ·have := h.q6 e; omega
 ·have := h.q6 e; omega
 ·exact set_keep (by omega) (List.getElem?_set_self (lt_of_getElem? h.g4))
 ·have := h.f6 e; omega
 ·have := h.f6 e; omega
def flH (b : S45) (i : Nat) (tl : List Int) (W : List Int) (q : Nat) (A : List S53) (st : Int) (fd : D) (G : List AObj) : List AObj :=
 chH 3 fd st tl q A (st + 1) i 0 (wrH i W q A st fd G)
noncomputable def C29 : Code := bodyOf Try.prog 29
abbrev S29 (i : Int) (G : List AObj) : St := Sm 43 [(0, dI i), (1, .ptr 5 0), (2, .ptr 3 0), (3, .ptr 0 0), (4, .ptr 1 0)] G
theorem fin29 (n : Nat) {i : Nat} {W : List Int} {x : Int} (hx : W[i]? = some x) {G : List AObj} (g4 : G[4]? = some (rowO 1 (W.map eI))) (g5 : G[5]? = some (.cells [rW W])) {Q : D → List AObj → Prop} (hQ : Q (dI x) G) :
  Ht False Try.prog (cR (cR C29)) (S29 i G) (fun e σ => (e = .normal ∨ e = .ret) ∧ ∃ d, resultsD TM σ (resOf Try.prog 29) = some d ∧ Q d σ.heap) := by
 have hxn := hxR n
 have ix : idx W (i : Int) = some x := by rw [idx_get]; exact hx
 have hr : resOf Try.prog 29 = [.tmp 6] := by kernel_rfl
 have fin : ∀ σ : St, σ.tmps.getD 6 .undef = dI x → resultsD TM σ (resOf Try.prog 29) = some (dI x) := fun σ h4 => by
  rw [hr]; simp only [resultsD, allM, resultD, h4]
 refine Ht.seq (by kernel_rfl) ?_
 refine Ht.region hxn (by kernel_rfl) ?_
 refine Ops.one' 1 (fun h0 e0 => ldc (i := ti22) (h := h0) (r := 5) (off := 0) (cs := [rW W]) (d := rW W) (hq_of (g := G) (e0.trans (by kernel_rfl)) g5) (by cases W <;> rfl)) (by kernel_rfl) (by kernel_rfl) ?_
 refine Ops.seg' 1 2 (by kernel_rfl) ?_
 refine Ops.one' 3 (fun h0 e0 => ix_w (T := TM) (g := .nil) h0 22 3 1 4 eI W i x ix (by kernel_rfl) (by kernel_rfl) (hq_of (g := G) (e0.trans (by kernel_rfl)) g4)) (by kernel_rfl) (by kernel_rfl) ?_
 refine Ops.one' 4 (fun h0 e0 => ld_w (i := ti3) h0 1 4 0 eI W i x (vI x) ix (hq_of (g := G) (e0.trans (by kernel_rfl)) g4) rfl) (by kernel_rfl) (by kernel_rfl) ?_
 refine Ops.seg' 1 5 (by kernel_rfl) ?_
 refine Ops.done (by kernel_rfl) ?_
 refine seqH.n ?_
 refine Ht.ret (by kernel_rfl) ?_
 exact ⟨.inr rfl, dI x, fin _ (by kernel_rfl), hQ⟩
theorem call29a (n : Nat) {b L W q A st qf F G} (h : FInv b L W q A st qf F G) {i : Nat} {x : Int} (hx : W[i]? = some x) (hne : x ≠ 0) : CallT False Try.prog 29 [dI i, .ptr 5 0, .ptr 3 0, .ptr 0 0, .ptr 1 0] G fun d h' => d = dI x ∧ h' = G := by
 have hxn := hxR n
 have ix : idx W (i : Int) = some x := by rw [idx_get]; exact hx
 refine callT_of_ht (c := bodyOf Try.prog 29) (T := TM) Try.func29 (by kernel_rfl) TM_ok ?_
 show Ht False Try.prog C29 _ _
 refine Ht.seq (by kernel_rfl) ?_
 refine Ht.region hxn (by kernel_rfl) ?_
 refine Ops.seg' 1 1 (by kernel_rfl) ?_
 refine Ops.done (by kernel_rfl) ?_
 refine seqH.n ?_
 refine Ht.seq (by kernel_rfl) ?_
 refine Ht.seq (by kernel_rfl) ?_
 refine Ht.region hxn (by kernel_rfl) ?_
 refine Ops.one' 1 (fun h0 e0 => ldc (i := ti22) (h := h0) (r := 5) (off := 0) (cs := [rW W]) (d := rW W) (hq_of (g := G) (e0.trans (by kernel_rfl)) h.g5) (by cases W <;> rfl)) (by kernel_rfl) (by kernel_rfl) ?_
 refine Ops.seg' 1 2 (by kernel_rfl) ?_
 refine Ops.one' 3 (fun h0 e0 => ix_w (T := TM) (g := .nil) h0 22 3 1 4 eI W i x ix (by kernel_rfl) (by kernel_rfl) (hq_of (g := G) (e0.trans (by kernel_rfl)) h.g4)) (by kernel_rfl) (by kernel_rfl) ?_
 refine Ops.one' 4 (fun h0 e0 => ld_w (i := ti3) h0 1 4 0 eI W i x (vI x) ix (hq_of (g := G) (e0.trans (by kernel_rfl)) h.g4) rfl) (by kernel_rfl) (by kernel_rfl) ?_
 refine Ops.seg' 1 5 (by kernel_rfl) ?_
 refine Ops.done (by kernel_rfl) ?_
 refine seqH.n ?_
 refine Ht.cond (x == 0) (by kernel_rfl) (by kernel_rfl) (fun hc => absurd (eq_of_beq hc) hne) (fun _ => ?_)
 refine Ht.skip (by kernel_rfl) ?_
 refine seqH.n ?_
 refine Ht.forget [0, 1, 2, 3, 4] (Ht.st (σ' := S29 i G) (by kernel_rfl) ?_)
 exact fin29 n hx h.g4 h.g5 (Q := fun d h' => d = dI x ∧ h' = G) ⟨rfl, rfl⟩
theorem call29b (n m : Nat) (hn : m + 2 ≤ n) {b L W q A st qf F G} (h : FInv b L W q A st qf F G) (hG : 6 ≤ G.length) {i : Nat} (hx : W[i]? = some 0) {p : S75} (hp : L[i]? = some p) {wt : Int} (hw : f32 m b p = some wt) {tl : List Int} (ht : f31 m b p wt = some tl) (hst : 0 ≤ st ∧ st + 1 + tl.length < 1000000000) (hA : A.length + tl.length < 1000000) :
  CallT False Try.prog 29 [dI i, .ptr 5 0, .ptr 3 0, .ptr 0 0, .ptr 1 0] G fun d h' => d = dI st ∧ h' = flH b i tl W q A st (rF qf F) G := by
 have hxn := hxR n
 have hi := lt_of_getElem? hx
 have ix : idx W (i : Int) = some 0 := by rw [idx_get]; exact hx
 have ip : idx L (i : Int) = some p := by rw [idx_get]; exact hp
 have hK := h.wr (i := i) hi
 have hz : upd W (i : Int) st = some (W.set i st) := by unfold upd; exact if_pos ⟨by omega, by simpa using hi⟩
 have hwst : w64 (st + 1) = st + 1 := w64_id ⟨by omega, by omega⟩
 refine callT_of_ht (c := bodyOf Try.prog 29) (T := TM) Try.func29 (by kernel_rfl) TM_ok ?_
 show Ht False Try.prog C29 _ _
 refine Ht.seq (by kernel_rfl) ?_
 refine Ht.region hxn (by kernel_rfl) ?_
 refine Ops.seg' 1 1 (by kernel_rfl) ?_
 refine Ops.done (by kernel_rfl) ?_
 refine seqH.n ?_
 refine Ht.seq (by kernel_rfl) ?_
 refine Ht.seq (by kernel_rfl) ?_
 refine Ht.region hxn (by kernel_rfl) ?_
 refine Ops.one' 1 (fun h0 e0 => ldc (i := ti22) (h := h0) (r := 5) (off := 0) (cs := [rW W]) (d := rW W) (hq_of (g := G) (e0.trans (by kernel_rfl)) h.g5) (by cases W <;> rfl)) (by kernel_rfl) (by kernel_rfl) ?_
 refine Ops.seg' 1 2 (by kernel_rfl) ?_
 refine Ops.one' 3 (fun h0 e0 => ix_w (T := TM) (g := .nil) h0 22 3 1 4 eI W i 0 ix (by kernel_rfl) (by kernel_rfl) (hq_of (g := G) (e0.trans (by kernel_rfl)) h.g4)) (by kernel_rfl) (by kernel_rfl) ?_
 refine Ops.one' 4 (fun h0 e0 => ld_w (i := ti3) h0 1 4 0 eI W i 0 (vI 0) ix (hq_of (g := G) (e0.trans (by kernel_rfl)) h.g4) rfl) (by kernel_rfl) (by kernel_rfl) ?_
 refine Ops.seg' 1 5 (by kernel_rfl) ?_
 refine Ops.done (by kernel_rfl) ?_
 refine seqH.n ?_
 refine Ht.cond true (by kernel_rfl) (by kernel_rfl) (fun _ => ?_) (fun hc => nomatch hc)
 refine Ht.seq (by kernel_rfl) ?_
 refine Ht.region hxn (by kernel_rfl) ?_
 refine Ops.one' 1 (fun h0 e0 => ldc (i := ti22) (h := h0) (r := 5) (off := 0) (cs := [rW W]) (d := rW W) (hq_of (g := G) (e0.trans (by kernel_rfl)) h.g5) (by cases W <;> rfl)) (by kernel_rfl) (by kernel_rfl) ?_
 refine Ops.seg' 2 3 (by kernel_rfl) ?_
 refine Ops.one' 4 (fun h0 e0 => ldc (i := ti3) (h := h0) (r := 3) (off := 0) (cs := [dI st, rA q A, rF qf F]) (d := dI st) (hq_of (g := G) (e0.trans (by kernel_rfl)) h.m.hr) rfl) (by kernel_rfl) (by kernel_rfl) ?_
 refine Ops.one' 5 (fun h0 e0 => ix_w (T := TM) (g := .nil) h0 22 3 1 4 eI W i 0 ix (by kernel_rfl) (by kernel_rfl) (hq_of (g := G) (e0.trans (by kernel_rfl)) h.g4)) (by kernel_rfl) (by kernel_rfl) ?_
 refine Ops.one' 6 (fun h0 e0 => st_w (i := ti3) h0 1 4 0 eI W (W.set i st) i 0 st (vI st) ix hz (hq_of (g := G) (e0.trans (by kernel_rfl)) h.g4) rfl rfl rfl) (by kernel_rfl) (by kernel_rfl) ?_
 refine Ops.done (by kernel_rfl) ?_
 refine seqH.n ?_
 refine Ht.forget [0, 1, 2, 3, 4] (Ht.st (σ' := S29 i (G.set 4 (rowO 1 ((W.set i st).map eI)))) (by kernel_rfl) ?_)
 have e3 : (G.set 4 (rowO 1 ((W.set i st).map eI)))[3]? = some (mC st q A (rF qf F)) := set_keep (by omega) h.m.hr
 refine Ht.seq (by kernel_rfl) ?_
 refine Ht.region hxn (by kernel_rfl) ?_
 refine Ops.seg' 1 1 (by kernel_rfl) ?_
 refine Ops.one' 2 (fun h0 e0 => ldc (i := ti3) (h := h0) (r := 3) (off := 0) (cs := [dI st, rA q A, rF qf F]) (d := dI st) (hq_of (g := G.set 4 (rowO 1 ((W.set i st).map eI))) (e0.trans (by kernel_rfl)) e3) rfl) (by kernel_rfl) (by kernel_rfl) ?_
 refine Ops.seg' 2 4 (by kernel_rfl) ?_
 refine Ops.one' 5 (fun h0 e0 => stc (i := ti3) (h := h0) (r := 3) (off := 0) (cs := [dI st, rA q A, rF qf F]) (cs' := [dI (w64 (st + 1)), rA q A, rF qf F]) (x := dI (w64 (st + 1))) (hq_of (g := G.set 4 (rowO 1 ((W.set i st).map eI))) (e0.trans (by kernel_rfl)) e3) rfl rfl) (by kernel_rfl) (by kernel_rfl) ?_
 refine Ops.done (by kernel_rfl) ?_
 refine seqH.n ?_
 refine Ht.forget [0, 1, 2, 3, 4] (Ht.st (σ' := S29 i (wrH i W q A st (rF qf F) G)) (by rw [hwst]; kernel_rfl) ?_)
 have hx2 : (W.set i st)[i]? = some st := List.getElem?_set_self hi
 have ix2 : idx (W.set i st) (i : Int) = some st := by rw [idx_get]; exact hx2
 have hGK : 6 ≤ (wrH i W q A st (rF qf F) G).length := by simp [wrH]; exact hG
 obtain ⟨q', hJ, _⟩ := hK.ch hGK st tl i 0
 have hc := call30 n (fr := i) (lb := 0) (out := tl) (to := st) hK.m hA (by omega)
 show Ht False Try.prog _ _ _
 generalize hKK : wrH i W q A st (rF qf F) G = K at hK hJ hc hGK ⊢
 have hxi := hxI true n is30 hc
 have ci := @callI_ok true n 30 [.ptr 3 0, dI i, dI 0, dP eI tl, dI st] K U (chH 3 (rF qf F) st tl q A (st + 1) i 0 K)
 have cj := @callI true n 30 [.ptr 3 0, dI i, dI 0, dP eI tl, dI st] K U (chH 3 (rF qf F) st tl q A (st + 1) i 0 K)
 refine Ht.region hxi (by kernel_rfl) ?_
 refine Ops.seg' 1 1 (by kernel_rfl) ?_
 refine Ops.one' 2 (fun h0 e0 => ldc (i := ti44) (h := h0) (r := 0) (off := 0) (cs := [.vptr (bc b)]) (d := .vptr (bc b)) (hq_of (g := K) (e0.trans (by kernel_rfl)) hK.g0) rfl) (by kernel_rfl) (by kernel_rfl) ?_
 refine Ops.one' 3 (fun h0 e0 => ldc (i := ti48) (h := h0) (r := 1) (off := 0) (cs := [dP e75 L]) (d := dP e75 L) (hq_of (g := K) (e0.trans (by kernel_rfl)) hK.g1) rfl) (by kernel_rfl) (by kernel_rfl) ?_
 refine Ops.seg' 1 4 (by kernel_rfl) ?_
 refine Ops.one' 5 (fun h0 e0 => ix_r (T := TM) h0 48 76 2 .plain e75 L i p ip (by kernel_rfl) (by kernel_rfl) (fun _ => rfl)) (by kernel_rfl) (by kernel_rfl) ?_
 refine Ops.seg' 1 6 (by kernel_rfl) ?_
 refine Ops.one' 7 (fun h0 e0 => ldc (i := ti44) (h := h0) (r := 0) (off := 0) (cs := [.vptr (bc b)]) (d := .vptr (bc b)) (hq_of (g := K) (e0.trans (by kernel_rfl)) hK.g0) rfl) (by kernel_rfl) (by kernel_rfl) ?_
 refine Ops.one' 8 (fun h0 e0 => ldc (i := ti48) (h := h0) (r := 1) (off := 0) (cs := [dP e75 L]) (d := dP e75 L) (hq_of (g := K) (e0.trans (by kernel_rfl)) hK.g1) rfl) (by kernel_rfl) (by kernel_rfl) ?_
 refine Ops.seg' 1 9 (by kernel_rfl) ?_
 refine Ops.one' 10 (fun h0 e0 => ix_r (T := TM) h0 48 76 2 .plain e75 L i p ip (by kernel_rfl) (by kernel_rfl) (fun _ => rfl)) (by kernel_rfl) (by kernel_rfl) ?_
 refine Ops.seg' 1 11 (by kernel_rfl) ?_
 refine Ops.one' 12 (fun h0 e0 => ci (h := h0) (by decide) (by kernel_rfl) (Args.vp (bc b) (Args.v (.agg [vI p.fFit, vI p.fSince]) (e75 p) (by kernel_rfl) Args.nil)) (ok32 m b p wt hw n (by omega))) (by kernel_rfl) (by kernel_rfl) ?_
 refine Ops.one' 13 (fun h0 e0 => ci (h := h0) (by decide) (by kernel_rfl) (Args.vp (bc b) (Args.v (.agg [vI p.fFit, vI p.fSince]) (e75 p) (by kernel_rfl) (Args.v (vI wt) (eI wt) (by kernel_rfl) Args.nil))) (ok31 m b p wt tl ht n (by omega))) (by kernel_rfl) (by kernel_rfl) ?_
 refine Ops.one' 14 (fun h0 e0 => ldc (i := ti22) (h := h0) (r := 5) (off := 0) (cs := [rW (W.set i st)]) (d := rW (W.set i st)) (hq_of (g := K) (e0.trans (by kernel_rfl)) hK.g5) (by cases W.set i st <;> rfl)) (by kernel_rfl) (by kernel_rfl) ?_
 refine Ops.seg' 1 15 (by kernel_rfl) ?_
 refine Ops.one' 16 (fun h0 e0 => ix_w (T := TM) (g := .nil) h0 22 3 1 4 eI (W.set i st) i st ix2 (by kernel_rfl) (by kernel_rfl) (hq_of (g := K) (e0.trans (by kernel_rfl)) hK.g4)) (by kernel_rfl) (by kernel_rfl) ?_
 refine Ops.one' 17 (fun h0 e0 => ld_w (i := ti3) h0 1 4 0 eI (W.set i st) i st (vI st) ix2 (hq_of (g := K) (e0.trans (by kernel_rfl)) hK.g4) rfl) (by kernel_rfl) (by kernel_rfl) ?_
 refine Ops.one' 18 (fun h0 e0 => cj (ds := [.ptr 3 0, dI i, dI 0, dP eI tl, dI st]) (h := h0) rfl (e0.trans (by kernel_rfl)) (by kernel_rfl) (by kernel_rfl)) (by kernel_rfl) (by kernel_rfl) ?_
 refine Ops.done (by kernel_rfl) ?_
 refine seqH.n ?_
 refine seqH.n ?_
 refine Ht.forget [0, 1, 2, 3, 4] (Ht.st (σ' := S29 i (chH 3 (rF qf F) st tl q A (st + 1) i 0 K)) (by kernel_rfl) ?_)
 refine fin29 n hx2 hJ.g4 hJ.g5 (Q := fun d h' => d = dI st ∧ h' = flH b i tl W q A st (rF qf F) G) ⟨rfl, ?_⟩
 unfold flH
 rw [hKK]
end Go.Abs.Yd
