import Derived.Test.YtgmbaemdedachaaUS
import Derived.Test.YtgmbaemdedachaaTF
namespace Go.Abs.Ty
open Go.Sort Go.Proofs Go.Abs.Ta Go.Abs.Tb Go.Abs.Tc Go.Abs.Te Go.Abs.Tf Go.Abs.Tg Go.Abs.Th Go.Abs.Ts Go.Abs.Tw
set_option linter.unusedVariables false
set_option linter.unusedSimpArgs false
set_option linter.unnecessarySimpa false
set_option maxRecDepth 100000
set_option maxHeartbeats 4000000
def cfind (x : S95) : List S95 → Nat → Option Nat
 | [], _ => none
 | y :: r, i => if ((x.fA == y.fA) && ((x.fB == y.fB) && true)) = true then some i else cfind x r (i + 1)
theorem keyC (x : S95) : keyOk TM 96 (e95 x) = true := by kernel_rfl
theorem eqVC (x y : S95) : eqV TM 8 96 (e95 x) (e95 y) = some ((x.fA == y.fA) && ((x.fB == y.fB) && true)) := by kernel_rfl
theorem keyFindC (x : S95) : ∀ (l : List S95) (i : Nat), keyFind TM 96 (e95 x) (l.map e95) i = some (cfind x l i)
 | [], i => rfl
 | y :: r, i => by
  show (match eqV TM 8 96 (e95 x) (e95 y) with
   | some true => if keyTwin (e95 x) (e95 y) then some (some i) else none
   | some false => keyFind TM 96 (e95 x) (r.map e95) (i + 1)
   | none => none) = _
  rw [eqVC]
  unfold cfind
  cases h : ((x.fA == y.fA) && ((x.fB == y.fB) && true)) with
  | true =>
   have h1 : x.fA = y.fA ∧ x.fB = y.fB := by simpa using h
   have : e95 x = e95 y := by unfold e95; rw [h1.1, h1.2]
   have ht : keyTwin (e95 x) (e95 y) = true := by
    rw [← this]
    show intsB _ _ = true
    simp [intsB]
   simp [ht]
  | false =>
   simp only [Bool.false_eq_true, if_false]
   exact keyFindC x r (i + 1)
theorem cfind_lt {s : S95} : ∀ {l : List S95} {i j : Nat}, cfind s l i = some j → i ≤ j ∧ j < i + l.length
 | [], i, j, h => by cases h
 | x :: r, i, j, h => by
  unfold cfind at h
  split at h
  ·cases h; simp
  ·obtain ⟨h1, h2⟩ := cfind_lt h
   simp only [List.length_cons]
   omega
theorem cfind_app {s : S95} : ∀ {l : List S95} {i : Nat}, cfind s l i = none → cfind s (l ++ [s]) i = some (i + l.length)
 | [], i, h => by
  unfold cfind
  simp
 | x :: r, i, h => by
  unfold cfind at h
  split at h
  ·cases h
  ·rename_i hx
   rw [List.cons_append]
   unfold cfind
   rw [if_neg hx, cfind_app h]
   simp only [List.length_cons]
   congr 1
   omega
abbrev oC (L : List S95) : AObj := .map (L.map e95) (ixs L.length)
variable {K : List S95} {h : List AObj} {r : Nat} {s : S95}
theorem lkC0 (hr : h[r]? = some (oC K)) (hf : cfind s K 0 = none) : (lookupD TM h 98 (.map r) (.v (e95 s)) true).map (·, h) = some (.v (.tuple [vI 0, .bool false]), h) := by
 have h1 : TM 98 = some ti98 := rfl
 have h2 : TM 3 = some ti3 := rfl
 have hk := keyFindC s K 0
 rw [hf] at hk
 simp only [lookupD, h1, show ti98.kind = .map 96 3 from rfl, h2, keyC, if_true, mapKV, hr, hk]
 rfl
variable {j : Nat}
theorem lkC1 (hr : h[r]? = some (oC K)) (hf : cfind s K 0 = some j) : (lookupD TM h 98 (.map r) (.v (e95 s)) true).map (·, h) = some (.v (.tuple [vI j, .bool true]), h) := by
 have h1 : TM 98 = some ti98 := rfl
 have h2 : TM 3 = some ti3 := rfl
 have hk := keyFindC s K 0
 rw [hf] at hk
 have hj : j < K.length := by have := cfind_lt hf; omega
 simp only [lookupD, h1, show ti98.kind = .map 96 3 from rfl, h2, keyC, if_true, mapKV, hr, hk, ixs_get hj]
 rfl
theorem lkC2 (hr : h[r]? = some (oC K)) (hf : cfind s K 0 = some j) : (lookupD TM h 98 (.map r) (.v (e95 s)) false).map (·, h) = some (dI j, h) := by
 have h1 : TM 98 = some ti98 := rfl
 have h2 : TM 3 = some ti3 := rfl
 have hk := keyFindC s K 0
 rw [hf] at hk
 have hj : j < K.length := by have := cfind_lt hf; omega
 simp only [lookupD, h1, show ti98.kind = .map 96 3 from rfl, h2, keyC, if_true, mapKV, hr, hk, ixs_get hj]
 rfl
theorem muC (hr : h[r]? = some (oC K)) (hf : cfind s K 0 = none) : (mapSetD TM h 98 (.map r) (.v (e95 s)) (dI K.length)).map (U, ·) = some (U, h.set r (oC (K ++ [s]))) := by
 have h1 : TM 98 = some ti98 := rfl
 have hk := keyFindC s K 0
 rw [hf] at hk
 simp only [mapSetD, h1, show ti98.kind = .map 96 3 from rfl, keyC, if_true, hr, hk, Option.map_some]
 show _ = some (U, h.set r (AObj.map ((K ++ [s]).map e95) (ixs (K ++ [s]).length)))
 rw [List.map_append, List.length_append, List.length_singleton, ixs_succ]
 rfl
def ent (x : List (List Int)) (s : Int) (k : Nat) : Option Int := match idx x s with
 | none => none
 | some row => row[k]?
def rowC (x y : List (List Int)) (c : S95) : Nat → Nat → List S95 → List Int → Option (List S95 × List Int)
 | 0, _, L, R => some (L, R)
 | z + 1, k, L, R => match ent x c.fA k, ent y c.fB k with
  | some a, some b => if a < 0 ∨ b < 0 then rowC x y c z (k + 1) L (R.set k (-1)) else match cfind ⟨a, b⟩ L 0 with
   | some j => rowC x y c z (k + 1) L (R.set k (j : Int))
   | none => rowC x y c z (k + 1) (L ++ [⟨a, b⟩]) (R.set k (L.length : Int))
  | _, _ => none
def meetB (x : List (List Int)) (p : List Bool) (y : List (List Int)) (q : List Bool) (n : Nat) : Nat → Nat → List S95 → List (List Int) → List Bool → Option (Option (List (List Int) × List Bool))
 | 0, _, _, _, _ => none
 | m + 1, i, L, N, F => match L[i]? with
  | none => some (some (N, F))
  | some c => match rowC x y c n 0 L (List.replicate n 0) with
   | none => none
   | some (L', R) => if 20000 < L'.length then some none else match idx p c.fA, idx q c.fB with
    | some a, some b => meetB x p y q n m (i + 1) L' (N ++ [R]) (F ++ [a && b])
    | _, _ => none
def f29 (m : Nat) (a b : S27) (n : Nat) : Option (S27 × S29) := if a.fSt = 0 ∨ b.fSt = 0 then some (⟨0, [], []⟩, ⟨0, 0⟩) else match f52 a (numL n), f52 b (numL n) with
 | some (x, p), some (y, q) => match meetB x p y q n 20002 0 [⟨0, 0⟩] [] [] with
  | none => none
  | some g => ofOne m n g
 | _, _ => none
theorem rowC_to {x y : List (List Int)} {c : S95} : ∀ (z k : Nat) (L : List S95) (R : List Int) (L' : List S95) (R' : List Int), rowC x y c z k L R = some (L', R') → (∀ t ∈ R, -1 ≤ t ∧ t < (L.length : Int)) →
  R'.length = R.length ∧ L.length ≤ L'.length ∧ L'.length ≤ L.length + z ∧ (∀ (j : Nat) x, L[j]? = some x → L'[j]? = some x) ∧ ∀ t ∈ R', -1 ≤ t ∧ t < (L'.length : Int)
 | 0, k, L, R, L', R', h, hR => by cases h; exact ⟨rfl, zL _, zL _, fun _ _ h => h, hR⟩
 | z + 1, k, L, R, L', R', h, hR => by
  unfold rowC at h
  split at h
  case h_2 => cases h
  rename_i a b _ _
  split at h
  ·obtain ⟨h1, h2, h3, h4, h5⟩ := rowC_to z (k + 1) L _ L' R' h fun t ht => by
    rcases List.mem_or_eq_of_mem_set ht with h | rfl
    ·exact hR t h
    ·omega
   exact ⟨by simpa using h1, h2, om, h4, h5⟩
  ·split at h
   ·rename_i j hj
    have := cfind_lt hj
    obtain ⟨h1, h2, h3, h4, h5⟩ := rowC_to z (k + 1) L _ L' R' h fun t ht => by
     rcases List.mem_or_eq_of_mem_set ht with h | rfl
     ·exact hR t h
     ·omega
    exact ⟨by simpa using h1, h2, om, h4, h5⟩
   ·obtain ⟨h1, h2, h3, h4, h5⟩ := rowC_to z (k + 1) (L ++ [⟨a, b⟩]) _ L' R' h fun t ht => by
     rw [List.length_append, List.length_singleton]
     rcases List.mem_or_eq_of_mem_set ht with h | rfl
     ·have := hR t h
      omega
     ·omega
    rw [List.length_append, List.length_singleton] at h2 h3
    exact ⟨by simpa using h1, om, om, fun j x hx => h4 j x (by rw [zJ (yE hx)]; exact hx), h5⟩
theorem meetB_ok {x : List (List Int)} {p : List Bool} {y : List (List Int)} {q : List Bool} {n : Nat} : ∀ (m i : Nat) (L : List S95) (N : List (List Int)) (F : List Bool) (g : List (List Int) × List Bool), N.length = i → F.length = i → i ≤ L.length → L.length ≤ 20000 →
  (∀ x ∈ N, x.length = n ∧ ∀ t ∈ x, -1 ≤ t ∧ t < (L.length : Int)) → 0 < L.length → meetB x p y q n m i L N F = some (some g) → OkT g.1 g.2 n
 | 0, i, L, N, F, g, h1, h2, h3, h4, h5, h6, h => by cases h
 | m + 1, i, L, N, F, g, h1, h2, h3, h4, h5, h6, h => by
  unfold meetB at h
  split at h
  ·rename_i hn
   have := List.getElem?_eq_none_iff.1 hn
   cases h
   exact ⟨by show N.length ≤ _; omega, by show F.length = N.length; omega, fun x hx => (h5 x hx).1, fun x hx t ht => by
    have := (h5 x hx).2 t ht
    show -1 ≤ t ∧ t < (N.length : Int)
    omega⟩
  ·rename_i s hs
   have hi := yE hs
   split at h
   ·cases h
   ·rename_i L' R hz
    obtain ⟨a1, a2, a3, a4, a5⟩ := rowC_to _ _ _ _ _ _ hz (fun t ht => by rw [(List.mem_replicate.1 ht).2]; omega)
    rw [zV] at a1
    split at h
    ·cases h
    ·split at h
     case h_2 => cases h
     refine meetB_ok m (i + 1) L' (N ++ [R]) _ g (by simp [h1]) (by simp [h2]) om om (fun x hx => ?_) om h
     rcases List.mem_append.1 hx with hx | hx
     ·exact ⟨(h5 x hx).1, fun t ht => by have := (h5 x hx).2 t ht; omega⟩
     ·simp at hx
      subst hx
      exact ⟨a1, a5⟩
set_option maxHeartbeats 4000000
structure OM (L K : List S95) (N : List (List Int)) (F : List Bool) (gl : AG) (ql : Nat) (gn : AG) (qn : Nat) (gf : AG) (qf rm : Nat) (G : List AObj) : Prop where
 g3 : G[3]? = some z28
 g4 : G[4]? = some z30
 l : G[ql]? = some (AG.o gl 2 (L.map e95))
 n : G[qn]? = some (AG.o gn 1 (N.map (eL eI)))
 f : G[qf]? = some (AG.o gf 1 (F.map eB))
 m : G[rm]? = some (oC K)
 ne : qn ≠ qf
section
variable {L K : List S95} {N : List (List Int)} {F : List Bool} {gl : AG} {ql : Nat} {gn : AG} {qn : Nat} {gf : AG} {qf rm : Nat} {G : List AObj}
theorem OM.app (h : OM L K N F gl ql gn qn gf qf rm G) (l : List AObj) : OM L K N F gl ql gn qn gf qf rm (G ++ l) :=
 ⟨app_keep h.g3, app_keep h.g4, app_keep h.l, app_keep h.n, app_keep h.f, app_keep h.m, h.ne⟩
theorem OM.row (h : OM L K N F gl ql gn qn gf qf rm G) {q : Nat} {R : List V} {x : AObj} (hq : G[q]? = some (.row 1 R)) : OM L K N F gl ql gn qn gf qf rm (G.set q x) := by
 have ne : ∀ {q' : Nat} {o : AObj}, G[q']? = some o → (∀ k es, o ≠ .row k es) → (G.set q x)[q']? = some o := fun h1 h2 => set_keep (fun e => by
  subst e
  rw [hq] at h1
  exact h2 _ _ (zC h1).symm) h1
 exact ⟨ne h.g3 fun _ _ e => (by cases e), ne h.g4 fun _ _ e => (by cases e), keepS hq rfl h.l, keepS hq rfl h.n, keepS hq rfl h.f, ne h.m fun _ _ e => (by cases e), h.ne⟩
theorem OM.map (h : OM L K N F gl ql gn qn gf qf rm G) (K' : List S95) : OM L K' N F gl ql gn qn gf qf rm (G.set rm (oC K')) := by
 have ne : ∀ {q' : Nat} {o : AObj}, G[q']? = some o → (∀ ks vs, o ≠ .map ks vs) → (G.set rm (oC K'))[q']? = some o := fun h1 h2 => set_keep (fun e => by
  subst e
  rw [h.m] at h1
  exact h2 _ _ (zC h1).symm) h1
 exact ⟨ne h.g3 fun _ _ e => (by cases e), ne h.g4 fun _ _ e => (by cases e), keepS h.m rfl h.l, keepS h.m rfl h.n, keepS h.m rfl h.f, set_new h.m, h.ne⟩
theorem OM.lst (h : OM L K N F gl ql gn qn gf qf rm G) (s : S95) (g : AG) : OM (L ++ [s]) K N F g G.length gn qn gf qf rm (G.set ql .dead ++ [AG.o g 2 ((L ++ [s]).map e95)]) :=
 ⟨app_keep (keepO h.l h.g3 rfl), app_keep (keepO h.l h.g4 rfl), end_get _ _ _, app_keep (Tg.set_dead h.l h.n (by decide)), app_keep (Tg.set_dead h.l h.f (by decide)), app_keep (keepO h.l h.m rfl), h.ne⟩
theorem OM.nxt (h : OM L K N F gl ql gn qn gf qf rm G) (R : List Int) (g : AG) : OM L K (N ++ [R]) F gl ql g G.length gf qf rm (G.set qn .dead ++ [AG.o g 1 ((N ++ [R]).map (eL eI))]) := by
 have := yE h.f
 exact ⟨app_keep (keepO h.n h.g3 rfl), app_keep (keepO h.n h.g4 rfl), app_keep (Tg.set_dead h.n h.l (by decide)), end_get _ _ _, app_keep (set_keep h.ne h.f), app_keep (keepO h.n h.m rfl), om⟩
theorem OM.fin (h : OM L K N F gl ql gn qn gf qf rm G) (b : Bool) (g : AG) : OM L K N (F ++ [b]) gl ql gn qn g G.length rm (G.set qf .dead ++ [AG.o g 1 ((F ++ [b]).map eB)]) := by
 have := yE h.n
 exact ⟨app_keep (keepO h.f h.g3 rfl), app_keep (keepO h.f h.g4 rfl), app_keep (Tg.set_dead h.f h.l (by decide)), app_keep (set_keep (Ne.symm h.ne) h.n), end_get _ _ _, app_keep (keepO h.f h.m rfl), om⟩
end
noncomputable def C29 : Code := bodyOf Try.prog 29
noncomputable abbrev A29 : Code := cR (cR (cR (cR (cR (cR (cR (cR (cR C29))))))))
noncomputable abbrev L29 : Code := cL A29
noncomputable abbrev BL29 : Code := cL (cL (cR L29))
noncomputable abbrev I29 : Code := cL (cL (cR BL29))
noncomputable abbrev J29 : Code := cL (cR (cR I29))
noncomputable abbrev BJ29 : Code := cL (cL (cR J29))
noncomputable abbrev BB29 : Code := cL (cL (cR (cR BJ29)))
abbrev lM (n : Nat) (x : List (List Int)) (p : List Bool) (y : List (List Int)) (q : List Bool) (L : List S95) (N : List (List Int)) (F : List Bool) (gl : AG) (ql : Nat) (gn : AG) (qn : Nat) (gf : AG) (qf rm : Nat) (i : Int) : List (Nat × D) :=
 [(5, Tc.lC (numL n)), (6, .ptr 3 0), (7, .ptr 4 0), (9, dP (eL eI) x), (10, dP eB p), (11, dP (eL eI) y), (12, dP eB q), (13, AG.d gl ql (L.map e95)), (14, .map rm), (15, AG.d gn qn (N.map (eL eI))), (16, AG.d gf qf (F.map eB)), (17, dI i)]
abbrev KM : List Nat := [5, 6, 7, 9, 10, 11, 12, 13, 14, 15, 16, 17]
abbrev c95 (c : S95) : AObj := .cells [dI c.fA, dI c.fB]
abbrev lP (g w n : Nat) (x : List (List Int)) (p : List Bool) (y : List (List Int)) (q : List Bool) (L : List S95) (N : List (List Int)) (F : List Bool) (gl : AG) (ql : Nat) (gn : AG) (qn : Nat) (gf : AG) (qf rm : Nat) (i k : Int) : List (Nat × D) :=
 (18, .ptr g 0) :: (19, sI w n) :: (66, dI n) :: (67, dI k) :: lM n x p y q L N F gl ql gn qn gf qf rm i
abbrev KP : List Nat := 18 :: 19 :: 66 :: 67 :: KM
variable {k : Nat} {x : List (List Int)}
theorem ent_some {s a : Int} (h : ent x s k = some a) : ∃ row, idx x s = some row ∧ idx row (k : Int) = some a := by
 unfold ent at h
 split at h
 ·cases h
 ·rename_i row hr
  exact ⟨row, hr, by rw [idx_get]; exact h⟩
theorem pair29 {n : Nat} {p : List Bool} {y : List (List Int)} {q : List Bool} {c : S95} {L : List S95} {N : List (List Int)} {F : List Bool} {gl : AG} {ql : Nat} {gn : AG} {qn : Nat} {gf : AG} {qf rm w g i z : Nat} {R : List Int} {G : List AObj} {goal : List S95 × List Int}
  (hI : OM L L N F gl ql gn qn gf qf rm G) (hLl : L.length ≤ 30000) (hk : k < n) (hRn : R.length = n) (hw : G[w]? = some (oI R)) (hgc : G[g]? = some (c95 c)) (hg : rowC x y c (z + 1) k L R = some goal) {Q : Post}
  (hQ : ∀ e L' R' gl ql G σ, (e = .normal ∨ e = .exit 3) → rowC x y c z (k + 1) L' R' = some goal → OM L' L' N F gl ql gn qn gf qf rm G → L'.length ≤ L.length + 1 → R'.length = n → G[w]? = some (oI R') → G[g]? = some (c95 c) →
   Abs.forget KP σ = Sm 151 (lP g w n x p y q L' N F gl ql gn qn gf qf rm i k) G → Q e σ) :
  HT BB29 (Sm 151 (lP g w n x p y q L N F gl ql gn qn gf qf rm i k) G) Q := by
 have hxn := hxM 1000010
 have hg : (match ent x c.fA k, ent y c.fB k with
  | some a, some b => if a < 0 ∨ b < 0 then rowC x y c z (k + 1) L (R.set k (-1)) else match cfind ⟨a, b⟩ L 0 with
   | some j => rowC x y c z (k + 1) L (R.set k (j : Int))
   | none => rowC x y c z (k + 1) (L ++ [⟨a, b⟩]) (R.set k (L.length : Int))
  | _, _ => none) = some goal := hg
 obtain ⟨a, ha⟩ : ∃ a, ent x c.fA k = some a := by
  cases h : ent x c.fA k with
  | none => rw [h] at hg; cases hg
  | some a => exact ⟨a, rfl⟩
 obtain ⟨b, hb⟩ : ∃ b, ent y c.fB k = some b := by
  cases h : ent y c.fB k with
  | none => rw [ha, h] at hg; cases hg
  | some b => exact ⟨b, rfl⟩
 rw [ha, hb] at hg
 dsimp only at hg
 obtain ⟨rx, hx1, hx2⟩ := ent_some ha
 obtain ⟨ry, hy1, hy2⟩ := ent_some hb
 refine Hs <| Hr hxn <| Og 2 <| On <| Hs <| Hr hxn <| Og 2 <| Oo (fun h0 e0 => lq ti3 g 0 [dI c.fA, dI c.fB] (dI c.fA) (Hw e0 hgc)) <| Oo (fun h0 e0 => xr h0 65 62 1 (eL eI) x c.fA rx hx1) <| Og 2 <| Oo (fun h0 e0 => xr h0 62 3 1 eI rx k a hx2) <| Og 3 <| Oo (fun h0 e0 => lq ti3 g 1 [dI c.fA, dI c.fB] (dI c.fB) (Hw e0 hgc)) <| Oo (fun h0 e0 => xr h0 65 62 1 (eL eI) y c.fB ry hy1) <| Og 2 <| Oo (fun h0 e0 => xr h0 62 3 1 eI ry k b hy2) <| Og 3 <| Oo (fun h0 e0 => sq ti96 G.length 0 [dI 0, dI 0] [dI a, dI b] (.v (e95 ⟨a, b⟩)) (Hw (g := G ++ [AObj.cells [dI 0, dI 0]]) e0 (mid_get G _ []))) <| On <| Hf (20 :: 21 :: KP) (Sm 151 ((20, dI k) :: (21, .ptr G.length 0) :: lP g w n x p y q L N F gl ql gn qn gf qf rm i k) ((G ++ [AObj.cells [dI 0, dI 0]]).set G.length (c95 ⟨a, b⟩))) ?_
 rw [mid_set G _ _ []]
 have gd : (G ++ [c95 ⟨a, b⟩])[G.length]? = some (c95 ⟨a, b⟩) := mid_get G _ []
 have hI := hI.app [c95 ⟨a, b⟩]
 have hw := app_keep (l := [c95 ⟨a, b⟩]) hw
 have hgc := app_keep (l := [c95 ⟨a, b⟩]) hgc
 generalize G.length = v at gd ⊢
 generalize G ++ [c95 ⟨a, b⟩] = G at gd hI hw hgc ⊢
 have keepC : ∀ {u : Nat} {d : S95} {R' : List Int}, G[u]? = some (c95 d) → (G.set w (oI R'))[u]? = some (c95 d) := fun h => set_keep (fun e => by
  subst e
  rw [hw] at h
  cases h) h
 refine Hs ?_
 have neg : ∀ σ, (a < 0 ∨ b < 0) → σ.tmps.getD 94 .undef = dB true → Abs.forget (20 :: KP) σ = Sm 151 ((20, dI k) :: lP g w n x p y q L N F gl ql gn qn gf qf rm i k) G → HT (cR (cL (cR (cR BB29)))) σ (SH (cR (cR (cR BB29))) Q) := by
  intro σ hab hv hσ
  rw [if_pos hab] at hg
  refine Ht.cond true kr hv (fun _ => ?_) (fun hc => nomatch hc)
  refine Hg (20 :: KP) hσ <| Hs <| Hr hxn <| Og 2 <| Oo (fun h0 e0 => ixI (N := n) (i := k) (Hw e0 hw) rfl hk) <| Oo (fun h0 e0 => stI (b := R) (i := k) (x := -1) (Hw e0 hw) om) <| On <| Ht.exit (id := 3) kr ?_
  show Q (AExit.exit 3) _
  exact hQ (.exit 3) L (R.set k (-1)) gl ql _ _ (.inr rfl) hg (hI.row hw) om (by rw [zP]; exact hRn) (set_new hw) (keepC hgc) kr
 refine Hs ?_
 by_cases h1 : a < 0
 ·refine Hr hxn <| Og 1 <| Oo (fun h0 e0 => lq ti3 v 0 [dI a, dI b] (dI a) (Hw e0 gd)) <| Oo (fun h0 e0 => bo h0 .lss a 0 true (by rw [ltD, decide_eq_true h1])) <| Og 5 <| On ?_
  exact neg _ (.inl h1) kr kr
 by_cases h2 : b < 0
 ·refine Hr hxn <| Og 1 <| Oo (fun h0 e0 => lq ti3 v 0 [dI a, dI b] (dI a) (Hw e0 gd)) <| Oo (fun h0 e0 => bo h0 .lss a 0 false (by rw [ltD, decide_eq_false h1])) <| Og 2 <| Oo (fun h0 e0 => lq ti3 v 1 [dI a, dI b] (dI b) (Hw e0 gd)) <| Oo (fun h0 e0 => bo h0 .lss b 0 true (by rw [ltD, decide_eq_true h2])) <| Og 1 <| On ?_
  exact neg _ (.inr h2) kr kr
 rw [if_neg om] at hg
 refine Hr hxn <| Og 1 <| Oo (fun h0 e0 => lq ti3 v 0 [dI a, dI b] (dI a) (Hw e0 gd)) <| Oo (fun h0 e0 => bo h0 .lss a 0 false (by rw [ltD, decide_eq_false h1])) <| Og 2 <| Oo (fun h0 e0 => lq ti3 v 1 [dI a, dI b] (dI b) (Hw e0 gd)) <| Oo (fun h0 e0 => bo h0 .lss b 0 false (by rw [ltD, decide_eq_false h2])) <| Og 1 <| On <| Hz <| Hk <| seqH.n <| Hf (20 :: 21 :: KP) (Sm 151 ((20, dI k) :: (21, .ptr v 0) :: lP g w n x p y q L N F gl ql gn qn gf qf rm i k) G) ?_
 clear neg
 have endR : ∀ (j : Nat) (L' : List S95) gl ql (G : List AObj) (σ : St), OM L' L' N F gl ql gn qn gf qf rm G → G[w]? = some (oI R) → G[g]? = some (c95 c) → G[v]? = some (c95 ⟨a, b⟩) → L'.length ≤ L.length + 1 → cfind ⟨a, b⟩ L' 0 = some j →
   rowC x y c z (k + 1) L' (R.set k (j : Int)) = some goal →
   Abs.forget (20 :: 21 :: KP) σ = Sm 151 ((20, dI k) :: (21, .ptr v 0) :: lP g w n x p y q L' N F gl ql gn qn gf qf rm i k) G → HT (cR (cR (cR (cR BB29)))) σ Q := by
  intro j L' gl ql G σ hI hw hgc gd hLl hf hg hσ
  refine Hg (20 :: 21 :: KP) hσ <| Hr hxn <| Og 3 <| Oo (fun h0 e0 => lq ti96 v 0 [dI a, dI b] (.v (e95 ⟨a, b⟩)) (Hw e0 gd)) <| Oo (fun h0 e0 => lkC2 (Hw e0 hI.m) hf) <| Oo (fun h0 e0 => ixI (N := n) (i := k) (Hw e0 hw) rfl hk) <| Oo (fun h0 e0 => stI (b := R) (i := k) (x := j) (Hw e0 hw) om) <| Od <| hQ .normal L' (R.set k (j : Int)) gl ql _ _ (.inl rfl) hg (hI.row hw) hLl (by rw [zP]; exact hRn) (set_new hw) (set_keep (fun e => by
   subst e
   rw [hw] at hgc
   cases hgc) hgc) kr
 refine Hs <| Hs ?_
 cases hf : cfind ⟨a, b⟩ L 0 with
 | some j =>
  rw [hf] at hg
  refine Hr hxn <| Og 1 <| Oo (fun h0 e0 => lq ti96 v 0 [dI a, dI b] (.v (e95 ⟨a, b⟩)) (Hw e0 gd)) <| Oo (fun h0 e0 => lkC1 (Hw e0 hI.m) hf) <| Og 5 <| On <| Hs <| Hr hxn <| Og 2 <| On <| Hz <| Hk <| seqH.n ?_
  exact endR j L gl ql G _ hI hw hgc gd om hf hg kr
 | none =>
  rw [hf] at hg
  have happ : app ti96.bytes L [(⟨a, b⟩ : S95)] = some (L ++ [⟨a, b⟩]) := Tg.app_ok (by decide) om
  refine Hr hxn <| Og 1 <| Oo (fun h0 e0 => lq ti96 v 0 [dI a, dI b] (.v (e95 ⟨a, b⟩)) (Hw e0 gd)) <| Oo (fun h0 e0 => lkC0 (Hw e0 hI.m) hf) <| Og 5 <| On <| Hs <| Hr hxn <| Og 2 <| On <| Hy <| Hs <| Hr hxn <| Og 1 <| Oo (fun h0 e0 => lq ti96 v 0 [dI a, dI b] (.v (e95 ⟨a, b⟩)) (Hw e0 gd)) <| Og 1 <| Oo (fun h0 e0 => lg h0 97 96 ql gl e95 L) <| Oo (fun h0 e0 => muC (Hw e0 hI.m) hf) <| On <| Hf (20 :: 21 :: KP) (Sm 151 ((20, dI k) :: (21, .ptr v 0) :: lP g w n x p y q L N F gl ql gn qn gf qf rm i k) (G.set rm (oC (L ++ [⟨a, b⟩])))) ?_
  have keepM : ∀ {u : Nat} {o : AObj}, G[u]? = some o → (∀ ks vs, o ≠ .map ks vs) → (G.set rm (oC (L ++ [⟨a, b⟩])))[u]? = some o := fun h h2 => set_keep (fun e => by
   subst e
   rw [hI.m] at h
   exact h2 _ _ (zC h).symm) h
  have gd := keepM gd (fun _ _ e => by cases e)
  have hgc := keepM hgc (fun _ _ e => by cases e)
  have hw := keepM hw (fun _ _ e => by cases e)
  have hI := hI.map (L ++ [⟨a, b⟩])
  clear keepM keepC
  generalize G.set rm (oC (L ++ [⟨a, b⟩])) = G at gd hI hw hgc ⊢
  refine Hr hxn <| Og 1 <| Oo (fun h0 e0 => lq ti96 v 0 [dI a, dI b] (.v (e95 ⟨a, b⟩)) (Hw e0 gd)) <| Og 1 <| Oo (fun h0 e0 => app_g (T := TM) h0 97 96 ql 2 ti96 gl .nonfull e95 L [⟨a, b⟩] (L ++ [⟨a, b⟩]) happ kr kr kr kr (fun _ => rfl) (Hw e0 hI.l)) <| Og 1 <| On ?_
  exact endR L.length (L ++ [⟨a, b⟩]) (gl.app [e95 ⟨a, b⟩]) G.length _ _ (hI.lst ⟨a, b⟩ _) (app_keep (keepO hI.l hw rfl)) (app_keep (keepO hI.l hgc rfl)) (app_keep (keepO hI.l gd rfl)) (by simp) (by rw [cfind_app hf]; simp) hg kr
set_option maxHeartbeats 4000000
abbrev KG : List Nat := 18 :: 19 :: KM
variable {F p q : List Bool} {G : List AObj} {L : List S95} {N x y : List (List Int)} {Q : Post} {R : List Int} {c : S95} {gf gl gn : AG} {i n qf ql qn rm : Nat}
theorem row29 (hn : n ≤ 300) {w g : Nat} {goal : List S95 × List Int}
  (hI : OM L L N F gl ql gn qn gf qf rm G) (hLl : L.length ≤ 20000) (hRn : R.length = n) (hw : G[w]? = some (oI R)) (hgc : G[g]? = some (c95 c)) (hg : rowC x y c n 0 L R = some goal)
  (hQ : ∀ gl ql G σ, OM goal.1 goal.1 N F gl ql gn qn gf qf rm G → G[w]? = some (oI goal.2) → G[g]? = some (c95 c) → Abs.forget KG σ = Sm 151 ((18, .ptr g 0) :: (19, sI w n) :: lM n x p y q goal.1 N F gl ql gn qn gf qf rm i) G → Q .normal σ) :
  HT J29 (Sm 151 ((18, .ptr g 0) :: (19, sI w n) :: lM n x p y q L N F gl ql gn qn gf qf rm i) G) Q := by
 have hxn := hxM 1000010
 refine Hs <| Hr hxn <| Og 1 <| Oo (fun h0 e0 => (show (lenD TM 62 (D.unt (dP eI (numL n)))).map (·, h0) = some (dI n, h0) from by rw [lr h0 62 3 eI (numL n), numL_len])) <| Og 1 <| On <| Hb 2 <| Ht.gen fun Q' hQ' => ?_
 replace hQ := fun gl ql G σ h1 h2 h3 h4 => hQ' _ _ (blkH.x (id := 2) (hQ gl ql G σ h1 h2 h3 h4))
 clear hQ'
 obtain ⟨l0, hl0⟩ : ∃ l0, L.length = l0 := ⟨_, rfl⟩
 have hLo : L.length ≤ l0 + 0 := by omega
 rw [hl0] at hLl
 clear hl0
 refine Ht.loop (fun z σ => ∃ (k : Nat) (L : List S95) (R : List Int) (gl : AG) (ql : Nat) (G : List AObj), k + z = n ∧ rowC x y c z k L R = some goal ∧ OM L L N F gl ql gn qn gf qf rm G ∧ L.length ≤ l0 + k ∧ R.length = n ∧ G[w]? = some (oI R) ∧ G[g]? = some (c95 c) ∧
  Abs.forget KP σ = Sm 151 (lP g w n x p y q L N F gl ql gn qn gf qf rm i k) G) n kr
  ⟨0, L, R, gl, ql, G, om, hg, hI, hLo, hRn, hw, hgc, kr⟩ ?_
 clear hI hg hRn hw hgc hLo
 rintro z σ ⟨k, L, R, gl, ql, G, hz, hg, hI, hLo, hRn, hw, hgc, hσ⟩
 refine Hg KP hσ ?_
 clear hσ
 refine Hs <| Hr hxn <| Og 1 <| On <| Hs <| Hd ((k : Int) < (n : Int)) (fun hc => ?_) (fun hc => ?_)
 case refine_2 =>
  have hz0 : z = 0 := by omega
  subst hz0
  cases hg
  refine Ht.exit (id := 2) kr ?_
  exact hQ gl ql G _ hI hw hgc kr
 have hlt : k < n := by omega
 cases z with
 | zero => omega
 | succ z =>
 refine Hk <| seqH.n <| Hs <| Hb 3 <| Hf KP (Sm 151 (lP g w n x p y q L N F gl ql gn qn gf qf rm i k) G) <| pair29 hI om hlt hRn hw hgc hg fun e L' R' gl ql G σ he hg hI hLl' hR' hw hgc hσ => ?_
 have next : SH (cR (cR (cR BJ29))) (lpH (fun z σ => ∃ (k : Nat) (L : List S95) (R : List Int) (gl : AG) (ql : Nat) (G : List AObj), k + z = n ∧ rowC x y c z k L R = some goal ∧ OM L L N F gl ql gn qn gf qf rm G ∧ L.length ≤ l0 + k ∧ R.length = n ∧ G[w]? = some (oI R) ∧ G[g]? = some (c95 c) ∧
  Abs.forget KP σ = Sm 151 (lP g w n x p y q L N F gl ql gn qn gf qf rm i k) G) (z + 1) Q') .normal σ := by
  refine seqH.n <| Hg KP hσ <| Hr hxn <| Og 2 <| Od <| ⟨z, om, k + 1, L', R', gl, ql, G, om, hg, hI, om, hR', hw, hgc, ?_⟩
  rw [← w64_nat om]
  kernel_rfl
 rcases he with rfl | rfl
 ·exact blkH.n next
 ·exact blkH.x next
def Fin29 (o : S27 × S29) : Post := fun e σ => (e = .normal ∨ e = .ret) ∧ ∃ d, resultsD TM σ (resOf Try.prog 29) = some d ∧ Abs.frz σ.heap 6 d = some (.tuple [e27 o.1, e29 o.2])
theorem state29 (hn : n ≤ 300) {L' : List S95}
  (hI : OM L L N F gl ql gn qn gf qf rm G) (hs : L[i]? = some c) (hLl : L.length ≤ 20000) (hN : N.length ≤ 20000) (hF : F.length ≤ 20000) (hg : rowC x y c n 0 L (List.replicate n 0) = some (L', R))
  (hE : 20000 < L'.length → ∀ σ, Fin29 (⟨0, [], []⟩, ⟨17, -1⟩) .ret σ → Q .ret σ)
  {a b : Bool} (hab : L'.length ≤ 20000 → idx p c.fA = some a ∧ idx q c.fB = some b)
  (hQ : L'.length ≤ 20000 → ∀ gl ql gn qn gf qf G σ, OM L' L' (N ++ [R]) (F ++ [a && b]) gl ql gn qn gf qf rm G → Abs.forget KM σ = Sm 151 (lM n x p y q L' (N ++ [R]) (F ++ [a && b]) gl ql gn qn gf qf rm i) G → Q .normal σ) :
  HT I29 (Sm 151 (lM n x p y q L N F gl ql gn qn gf qf rm i) G) Q := by
 have hxn := hxM 1000010
 have hi := yE hs
 have hRl : R.length = n := by
  have := (rowC_to n 0 L _ L' R hg (fun t ht => by rw [(List.mem_replicate.1 ht).2]; omega)).1
  rw [zV] at this
  exact this
 have ixs : idx L (i : Int) = some c := by rw [idx_get]; exact hs
 refine Hs <| Hr hxn <| Og 2 <| Oo (fun h0 e0 => ix_g (T := TM) h0 97 96 2 ql gl e95 L i c ixs kr kr (fun _ => rfl)) <| Og 2 <| Oo (fun h0 e0 => sq ti96 G.length 0 [dI 0, dI 0] [dI c.fA, dI c.fB] (.v (e95 c)) (Hw (g := G ++ [AObj.cells [dI 0, dI 0]]) e0 (mid_get G _ []))) <| On <| Hf (18 :: KM) (Sm 151 ((18, .ptr G.length 0) :: lM n x p y q L N F gl ql gn qn gf qf rm i) ((G ++ [AObj.cells [dI 0, dI 0]]).set G.length (c95 c))) ?_
 rw [mid_set G _ _ []]
 have hgc : (G ++ [c95 c])[G.length]? = some (c95 c) := mid_get G _ []
 have hI := hI.app [c95 c]
 generalize G.length = g at hgc ⊢
 generalize G ++ [c95 c] = G at hgc hI ⊢
 refine Hs <| Hr hxn <| Og 1 <| Oo (fun h0 e0 => (show (lenD TM 62 (D.unt (dP eI (numL n)))).map (·, h0) = some (dI n, h0) from by rw [lr h0 62 3 eI (numL n), numL_len])) <| Oo (fun h0 e0 => mkI (h := h0) (N := n) om) <| Og 1 <| On <| Hf KG (Sm 151 ((18, .ptr g 0) :: (19, sI G.length n) :: lM n x p y q L N F gl ql gn qn gf qf rm i) (G ++ [oI (List.replicate n 0)])) ?_
 have hw : (G ++ [oI (List.replicate n 0)])[G.length]? = some (oI (List.replicate n 0)) := mid_get G _ []
 have hI := hI.app [oI (List.replicate n 0)]
 have hgc := app_keep (l := [oI (List.replicate n 0)]) hgc
 generalize G.length = w at hw ⊢
 generalize G ++ [oI (List.replicate n 0)] = G at hw hI hgc ⊢
 refine Hs <| row29 hn hI hLl (by simp) hw hgc hg fun gl ql G σ hI hw hgc hσ => ?_
 have hI : OM L' L' N F gl ql gn qn gf qf rm G := hI
 have hw : G[w]? = some (oI R) := hw
 refine seqH.n <| Hg KG hσ ?_
 clear hσ
 refine Hs <| Hs ?_
 by_cases hlim : 20000 < L'.length
 ·refine Hr hxn <| Og 1 <| Oo (fun h0 e0 => lg h0 97 96 ql gl e95 L') <| Oo (fun h0 e0 => bo h0 .gtr L'.length 20000 true (by rw [gtD, decide_eq_true om])) <| On <| Hy <| Hs <| Hr hxn <| Og 1 <| Oo (fun h0 e0 => call_ok (E' := (XM 1000010).E) (h := h0) kr (Args.v (vI 17) (vI 17) kr (Args.v (vI (-1)) (vI (-1)) kr Args.nil)) (ok43 1000001 17 (-1) ⟨17, -1⟩ rfl 1000010 om)) <| Oo (fun h0 e0 => sq ti28 3 0 [dI 0, .v nilS, .v nilS] [dI 0, .v nilS, .v nilS] (.v (.agg [vI 0, nilS, nilS])) (Hw e0 hI.g3)) <| Oo (fun h0 e0 => sq ti30 4 0 [dI 0, dI 0] [dI 17, dI (-1)] (.v (e29 ⟨17, -1⟩)) (Hw (g := G.set 3 (.cells [dI 0, .v nilS, .v nilS])) e0 (set_keep (by decide) hI.g4))) <| On <| Ht.ret kr <| seqH.r <| hE hlim _ ⟨.inr rfl, ?_⟩
  have k1 : ((G.set 3 (.cells [dI 0, .v nilS, .v nilS])).set 4 (.cells [dI 17, dI (-1)]))[3]? = some (.cells [dI 0, .v nilS, .v nilS]) := set_keep (by decide) (set_new hI.g3)
  have k2 : ((G.set 3 (.cells [dI 0, .v nilS, .v nilS])).set 4 (.cells [dI 17, dI (-1)]))[4]? = some (.cells [dI 17, dI (-1)]) := set_new (set_keep (by decide) hI.g4)
  refine resC (a := 6) (b := 7) (r := 3) (s := 4) (cs := [dI 0, .v nilS, .v nilS]) (x := 17) (y := -1) kr kr kr (Eq.trans (congrArg (fun z : List AObj => z[3]?) ?_) k1) (Eq.trans (congrArg (fun z : List AObj => z[4]?) ?_) k2) rfl (fl_zero _)
  ·kernel_rfl
  ·kernel_rfl
 refine Hr hxn <| Og 1 <| Oo (fun h0 e0 => lg h0 97 96 ql gl e95 L') <| Oo (fun h0 e0 => bo h0 .gtr L'.length 20000 false (by rw [gtD, decide_eq_false om])) <| On <| Hz <| Hk <| seqH.n ?_
 obtain ⟨ha, hb⟩ := hab om
 refine Ht.forget KG (Ht.st (σ' := Sm 151 ((18, .ptr g 0) :: (19, .osl w 0 (R.map eI).length false) :: lM n x p y q L' N F gl ql gn qn gf qf rm i) G) (by rw [List.length_map, hRl]; kernel_rfl) ?_)
 refine Ht.freezeR (t := 19) (r := w) (k := 1) (es := R.map eI) kr hw <| Ht.st (σ' := Sm 151 ((18, .ptr g 0) :: (19, dP eI R) :: lM n x p y q L' N F gl ql gn qn gf qf rm i) (G.set w .dead)) kr ?_
 have hI := hI.row (x := .dead) hw
 have hgc := set_keep (x := AObj.dead) (fun e : w = g => by
  subst e
  rw [hw] at hgc
  cases hgc) hgc
 generalize G.set w AObj.dead = G at hI hgc ⊢
 have happ1 : app ti62.bytes N [R] = some (N ++ [R]) := Tg.app_ok (by decide) om
 have happ2 : ∀ v : Bool, app ti4.bytes F [v] = some (F ++ [v]) := fun v => Tg.app_ok (by decide) om
 refine Hs <| Hr hxn <| Og 3 <| Oo (fun h0 e0 => app_g (T := TM) h0 65 62 qn 1 ti62 gn .nonfull (eL eI) N [R] (N ++ [R]) happ1 kr kr kr kr (fun _ => rfl) (Hw e0 hI.n)) <| Og 1 <| On ?_
 have hgc := app_keep (l := [AG.o (gn.app [eL eI R]) 1 ((N ++ [R]).map (eL eI))]) (keepO (x := .dead) hI.n hgc rfl)
 have hI := hI.nxt R (gn.app [eL eI R])
 refine Hf (18 :: KM) (Sm 151 ((18, .ptr g 0) :: lM n x p y q L' (N ++ [R]) F gl ql (gn.app [eL eI R]) G.length gf qf rm i) (G.set qn .dead ++ [AG.o (gn.app [eL eI R]) 1 ((N ++ [R]).map (eL eI))])) ?_
 generalize G.set qn AObj.dead ++ [AG.o (gn.app [eL eI R]) 1 ((N ++ [R]).map (eL eI))] = M at hI hgc ⊢
 generalize G.length = qn at hI ⊢
 generalize gn.app [eL eI R] = gn at hI ⊢
 cases a with
 | false =>
  refine Hr hxn <| Og 3 <| Oo (fun h0 e0 => lq ti3 g 0 [dI c.fA, dI c.fB] (dI c.fA) (Hw e0 hgc)) <| Oo (fun h0 e0 => xr h0 66 4 1 eB p c.fA false ha) <| Og 9 <| Oo (fun h0 e0 => app_g (T := TM) h0 66 4 qf 1 ti4 gf .nonfull eB F [false] (F ++ [false]) (happ2 _) kr kr kr kr (fun _ => rfl) (Hw e0 hI.f)) <| Og 1 <| Od ?_
  exact hQ om gl ql gn qn (gf.app [eB false]) M.length _ _ (hI.fin _ _) kr
 | true =>
  refine Hr hxn <| Og 3 <| Oo (fun h0 e0 => lq ti3 g 0 [dI c.fA, dI c.fB] (dI c.fA) (Hw e0 hgc)) <| Oo (fun h0 e0 => xr h0 66 4 1 eB p c.fA true ha) <| Og 4 <| Oo (fun h0 e0 => lq ti3 g 1 [dI c.fA, dI c.fB] (dI c.fB) (Hw e0 hgc)) <| Oo (fun h0 e0 => xr h0 66 4 1 eB q c.fB b hb) <| Og 3 <| Oo (fun h0 e0 => app_g (T := TM) h0 66 4 qf 1 ti4 gf .nonfull eB F [b] (F ++ [b]) (happ2 _) kr kr kr kr (fun _ => rfl) (Hw e0 hI.f)) <| Og 1 <| Od ?_
  exact hQ om gl ql gn qn (gf.app [eB b]) M.length _ _ (hI.fin _ _) kr
open Go.Sort Go.Proofs Go.Abs.Ta Go.Abs.Tb Go.Abs.Tc Go.Abs.Td Go.Abs.Te Go.Abs.Tf Go.Abs.Tg Go.Abs.Th Go.Abs.Ts Go.Abs.Tw
set_option maxHeartbeats 4000000
abbrev lY (n : Nat) (x : List (List Int)) (p : List Bool) (y : List (List Int)) (q : List Bool) (L : List S95) (gl : AG) (ql : Nat) (gn : AG) (qn : Nat) (gf : AG) (qf rm : Nat) : List (Nat × D) :=
 [(5, Tc.lC (numL n)), (6, .ptr 3 0), (7, .ptr 4 0), (9, dP (eL eI) x), (10, dP eB p), (11, dP (eL eI) y), (12, dP eB q), (13, AG.d gl ql (L.map e95)), (14, .map rm), (15, AG.d gn qn []), (16, AG.d gf qf [])]
variable {n : Nat} {o : S27 × S29}
theorem main29 (hn : n ≤ 300) {x : List (List Int)} {p : List Bool} {y : List (List Int)} {q : List Bool} {fuel m : Nat} {v : Option (List (List Int) × List Bool)} {L : List S95} {gl : AG} {ql : Nat} {gn : AG} {qn : Nat} {gf : AG} {qf rm : Nat} {G : List AObj}
  (hI : OM L L [] [] gl ql gn qn gf qf rm G) (hLl : L.length ≤ 20000) (hL0 : 0 < L.length) (hg : meetB x p y q n m 0 L [] [] = some v) (ho : ofOne fuel n v = some o) (hm : m ≤ 100000) :
  HT A29 (Sm 151 (lY n x p y q L gl ql gn qn gf qf rm) G) (Fin29 o) := by
 have hxn := hxM 1000010
 have hok : ∀ N F, v = some (N, F) → OkT N F n := fun N F e => by
  subst e
  exact meetB_ok m 0 L [] [] (N, F) rfl rfl (Nat.zero_le _) hLl (fun x hx => by simp at hx) hL0 hg
 refine Hs <| Hs <| Hr hxn <| Og 1 <| On <| Hb 0 <| Ht.loop (fun z σ => ∃ (i : Nat) (L : List S95) (N : List (List Int)) (F : List Bool) (gl : AG) (ql : Nat) (gn : AG) (qn : Nat) (gf : AG) (qf : Nat) (G : List AObj), i + z = m ∧ meetB x p y q n z i L N F = some v ∧ OM L L N F gl ql gn qn gf qf rm G ∧ L.length ≤ 20000 ∧ N.length = i ∧ F.length = i ∧ i ≤ L.length ∧
  Abs.forget KM σ = Sm 151 (lM n x p y q L N F gl ql gn qn gf qf rm i) G) m kr
  ⟨0, L, [], [], gl, ql, gn, qn, gf, qf, G, om, hg, hI, hLl, rfl, rfl, om, kr⟩ ?_
 clear hI hg hLl hL0
 rintro z σ ⟨i, L, N, F, gl, ql, gn, qn, gf, qf, G, hz, hg, hI, hLl, hN, hF, hiL, hσ⟩
 refine Hg KM hσ ?_
 clear hσ
 cases z with
 | zero => cases hg
 | succ z =>
 have hg : (match L[i]? with
  | none => some (some (N, F))
  | some c => match rowC x y c n 0 L (List.replicate n 0) with
   | none => none
   | some (L', R) => if 20000 < L'.length then some none else match idx p c.fA, idx q c.fB with
    | some a, some b => meetB x p y q n z (i + 1) L' (N ++ [R]) (F ++ [a && b])
    | _, _ => none) = some v := hg
 refine Hs <| Hs <| Hr hxn <| Og 2 <| Oo (fun h0 e0 => lg h0 97 96 ql gl e95 L) <| Og 1 <| On <| Hd ((i : Int) < (L.length : Int)) (fun hc => ?_) (fun hc => ?_)
 case refine_2 =>
  rw [zS om] at hg
  cases hg
  have ho : f47 fuel (numL n) N F = some o := ho
  have hxp := hxP false 1000010 is27 (call27 fuel hn (hok N F rfl) ho)
  refine Ht.exit (id := 0) kr ?_
  show SH (cR A29) (Fin29 o) .normal _
  refine seqH.n <| Hf KM (Sm 151 (lM n x p y q L N F gl ql gn qn gf qf rm i) G) <| Hs <| Hr hxp <| Og 3 <| Oo (fun h0 e0 => callP (row := false) (n := 1000010) (f0 := 27) (ds0 := [dP eI (numL n), dP (eL eI) N, dP eB F]) (ds := [dP eI (numL n), AG.d gn qn (N.map (eL eI)), AG.d gf qf (F.map eB)]) (h := h0) (r := .tuple [e27 o.1, e29 o.2]) (by simp only [allM, ag_arg]; rfl) (by simp only [List.all_cons, ag_freed]; rfl) rfl) <| Og 2 <| Oo (fun h0 e0 => sq ti28 3 0 [dI 0, .v nilS, .v nilS] (mCs o.1) (.v (e27 o.1)) (Hw e0 hI.g3)) <| Oo (fun h0 e0 => sq ti30 4 0 [dI 0, dI 0] [dI o.2.fCo, dI o.2.fIx] (.v (e29 o.2)) (Hw (g := G.set 3 (.cells (mCs o.1))) e0 (set_keep (by decide) hI.g4))) <| On <| Ht.ret kr ?_
  have k1 : ((G.set 3 (.cells (mCs o.1))).set 4 (.cells [dI o.2.fCo, dI o.2.fIx]))[3]? = some (.cells (mCs o.1)) := set_keep (by decide) (set_new hI.g3)
  have k2 : ((G.set 3 (.cells (mCs o.1))).set 4 (.cells [dI o.2.fCo, dI o.2.fIx]))[4]? = some (.cells [dI o.2.fCo, dI o.2.fIx]) := set_new (set_keep (by decide) hI.g4)
  exact ⟨.inr rfl, two_res (N := 151) (a := 6) (b := 7) (r := 3) (s := 4) (L := (G.set 3 (.cells (mCs o.1))).set 4 (.cells [dI o.2.fCo, dI o.2.fIx])) kr kr kr kr k1 k2⟩
 have hlt : i < L.length := by omega
 have hs : L[i]? = some L[i] := zA hlt
 rw [hs] at hg
 generalize L[i] = c at hg hs
 dsimp only at hg
 rcases hrow : rowC x y c n 0 L (List.replicate n 0) with _ | ⟨L', R⟩
 ·rw [hrow] at hg; cases hg
 rw [hrow] at hg
 dsimp only at hg
 have hlo := (rowC_to n 0 L _ L' R hrow (fun t ht => by rw [(List.mem_replicate.1 ht).2]; omega)).2.1
 -- the two ends
 obtain ⟨a, b, hab, hg2⟩ : ∃ a b : Bool, (L'.length ≤ 20000 → idx p c.fA = some a ∧ idx q c.fB = some b) ∧ (L'.length ≤ 20000 → meetB x p y q n z (i + 1) L' (N ++ [R]) (F ++ [a && b]) = some v) := by
  by_cases hlim : 20000 < L'.length
  ·exact ⟨false, false, fun h => by omega, fun h => by omega⟩
  ·rw [if_neg hlim] at hg
   cases h1 : idx p c.fA with
   | none => rw [h1] at hg; cases hg
   | some a =>
    cases h2 : idx q c.fB with
    | none => rw [h1, h2] at hg; cases hg
    | some b =>
     rw [h1, h2] at hg
     exact ⟨a, b, fun _ => ⟨rfl, rfl⟩, fun _ => hg⟩
 refine Hk <| seqH.n <| Hs <| Hb 1 <| Hf KM (Sm 151 (lM n x p y q L N F gl ql gn qn gf qf rm i) G) <| state29 hn hI hs hLl om om hrow (fun hlim σ hfin => ?_) hab (fun hlim gl ql gn qn gf qf G σ hI hσ => ?_)
 ·rw [if_pos hlim] at hg
  cases hg
  have ho : (⟨⟨0, [], []⟩, ⟨17, -1⟩⟩ : S27 × S29) = o := zC ho
  subst ho
  refine blkH.r <| seqH.r ?_
  show lpH _ _ _ .ret _
  exact hfin
 ·refine blkH.n <| seqH.n <| Hg KM hσ <| Hr hxn <| Og 3 <| Od <| ⟨z, om, i + 1, L', N ++ [R], F ++ [a && b], gl, ql, gn, qn, gf, qf, G, om, hg2 hlim, hI, om, by simp [hN], by simp [hF], om, ?_⟩
  rw [← w64_nat om]
  kernel_rfl
abbrev w27 (m : S27) : AObj := .cells [dI m.fSt, dP e52 m.fAs, dP e54 m.fFn]
theorem two {A B C D' E' : AObj} {Q : Nat → AObj → Prop} (h0 : Q 0 A) (h1 : Q 1 B) (h2 : Q 2 C) (h3 : Q 3 D') (h4 : Q 4 E') : ∀ (q : Nat) (y : AObj), [A, B, C, D', E'][q]? = some y → Q q y
 | 0, _, h => zC h ▸ h0
 | 1, _, h => zC h ▸ h1
 | 2, _, h => zC h ▸ h2
 | 3, _, h => zC h ▸ h3
 | 4, _, h => zC h ▸ h4
 | _ + 5, _, h => by cases h
variable {a b : S27}
theorem wk29 (m : Nat) (hn : n ≤ 300) (h : f29 m a b n = some o) : HT C29 (startIn Try.prog 29 [.v (e27 a), .v (e27 b), dP eI (numL n)] []) (Fin29 o) := by
 have hxn := hxM 1000010
 refine Hs <| Hr hxn <| Og 5 <| On <| Hf [3, 4, 5, 6, 7] (Sm 151 [(3, .ptr 0 0), (4, .ptr 1 0), (5, .ptr 2 0), (6, .ptr 3 0), (7, .ptr 4 0)] [w27 a, w27 b, .cells [dP eI (numL n)], z28, z30]) ?_
 have zero : ∀ σ, (a.fSt = 0 ∨ b.fSt = 0) → σ.tmps.getD 31 .undef = dB true → Abs.forget [6, 7] σ = Sm 151 [(6, .ptr 3 0), (7, .ptr 4 0)] [w27 a, w27 b, .cells [dP eI (numL n)], z28, z30] → HT (cR (cL (cR C29))) σ (SH (cR (cR C29)) (Fin29 o)) := by
  intro σ hz hv hσ
  unfold f29 at h
  rw [if_pos hz] at h
  cases h
  refine Ht.cond true kr hv (fun _ => ?_) (fun hc => nomatch hc)
  refine Hg [6, 7] hσ <| Hs <| Hr hxn <| Og 4 <| On <| Ht.ret kr <| seqH.r ?_
  exact ⟨.inr rfl, resC (a := 6) (b := 7) (r := 3) (s := 4) (cs := [dI 0, .v nilS, .v nilS]) (x := 0) (y := 0) kr kr kr kr kr rfl (fl_zero _)⟩
 refine Hs <| Hs ?_
 have eqD3 : ∀ (a b : Int) (h : List AObj), (binD TM .eql 3 (D.unt (dI a)) (D.unt (dI b))).map (·, h) = some (dB (a == b), h) := fun a b h => rfl
 by_cases h1 : a.fSt = 0
 ·refine Hr hxn <| Og 2 <| Oo (fun h0 e0 => bo h0 .eql a.fSt 0 true (by rw [eqD3, h1]; rfl)) <| Og 5 <| On ?_
  exact zero _ (.inl h1) kr kr
 have e1 : (a.fSt == 0) = false := by simpa using h1
 by_cases h2 : b.fSt = 0
 ·refine Hr hxn <| Og 2 <| Oo (fun h0 e0 => bo h0 .eql a.fSt 0 false (by rw [eqD3, e1])) <| Og 3 <| Oo (fun h0 e0 => bo h0 .eql b.fSt 0 true (by rw [eqD3, h2]; rfl)) <| Og 1 <| On ?_
  exact zero _ (.inr h2) kr kr
 have e2 : (b.fSt == 0) = false := by simpa using h2
 clear zero
 unfold f29 at h
 rw [if_neg (by simp [h1, h2])] at h
 rcases hx : f52 a (numL n) with _ | ⟨x, p⟩
 ·rw [hx] at h; cases h
 rcases hy : f52 b (numL n) with _ | ⟨y, q⟩
 ·rw [hx, hy] at h; cases h
 rw [hx, hy] at h
 dsimp only at h
 rcases hv : meetB x p y q n 20002 0 [⟨0, 0⟩] [] [] with _ | v
 ·rw [hv] at h; cases h
 rw [hv] at h
 have ho : ofOne m n v = some o := h
 refine Hr hxn <| Og 2 <| Oo (fun h0 e0 => bo h0 .eql a.fSt 0 false (by rw [eqD3, e1])) <| Og 3 <| Oo (fun h0 e0 => bo h0 .eql b.fSt 0 false (by rw [eqD3, e2])) <| Og 1 <| On <| Hz <| Hk <| seqH.n <| Hf [3, 4, 5, 6, 7] (Sm 151 [(3, .ptr 0 0), (4, .ptr 1 0), (5, .ptr 2 0), (6, .ptr 3 0), (7, .ptr 4 0)] [w27 a, w27 b, .cells [dP eI (numL n)], z28, z30]) <| Ht.freeze (t := 5) (r := 2) (n := 6) (cs := [dP eI (numL n)]) (vs := [vP eI (numL n)]) (h1 := [w27 a, w27 b, .dead, z28, z30]) (h2 := [.dead, .dead, .cells [dP eI (numL n)], .dead, .dead]) kr rfl rfl rfl rfl
  (two (fun _ => rfl) (fun _ => rfl) (fun h => nomatch h) (fun _ => rfl) (fun _ => rfl)) (two (fun h => nomatch h) (fun h => nomatch h) (fun _ => rfl) (fun h => nomatch h) (fun h => nomatch h))
  (fun q y z hq hl hz hlz => two (Q := fun q y => y.live = true → [AObj.dead, .dead, .cells [dP eI (numL n)], .dead, .dead][q]? = some z → False) (fun _ h => by cases h; cases hlz) (fun _ h => by cases h; cases hlz) (fun h _ => by cases h) (fun _ h => by cases h; cases hlz) (fun _ h => by cases h; cases hlz) q y hq hl hz) ?_
 refine Ht.st (σ' := Sm 151 [(3, .ptr 0 0), (4, .ptr 1 0), (5, Tc.lC (numL n)), (6, .ptr 3 0), (7, .ptr 4 0)] [w27 a, w27 b, .dead, z28, z30]) kr ?_
 have hx1 := hxP false 1000010 is52 (call52 a (numL n) (x, p) hx)
 have hx2 := hxP false 1000010 is52 (call52 b (numL n) (y, q) hy)
 refine Hs <| Hr hxn <| Og 2 <| On <| Hs <| Hr hx1 <| Og 2 <| Oo (fun h0 e0 => callP (row := false) (n := 1000010) (f0 := 52) (ds0 := [.v (e27 a), Tc.lC (numL n)]) (ds := [.v (e27 a), Tc.lC (numL n)]) (h := h0) (r := .tuple [eL (eL eI) x, eL eB p]) rfl rfl rfl) <| Og 5 <| On <| Hs <| Hr hx2 <| Og 2 <| Oo (fun h0 e0 => callP (row := false) (n := 1000010) (f0 := 52) (ds0 := [.v (e27 b), Tc.lC (numL n)]) (ds := [.v (e27 b), Tc.lC (numL n)]) (h := h0) (r := .tuple [eL (eL eI) y, eL eB q]) rfl rfl rfl) <| Og 5 <| On <| Hs <| Hr hxn <| Og 3 <| On <| Hf [5, 6, 7, 9, 10, 11, 12, 13] (Sm 151 [(5, Tc.lC (numL n)), (6, .ptr 3 0), (7, .ptr 4 0), (9, dP (eL eI) x), (10, dP eB p), (11, dP (eL eI) y), (12, dP eB q), (13, AG.d (.fl .nonfull) 6 ([(⟨0, 0⟩ : S95)].map e95))] [w27 a, w27 b, .dead, z28, z30]) <| Hs <| Hr hxn <| Og 5 <| On <| Hs <| Hr hxn <| Og 1 <| On <| Hs <| Hr hxn <| Og 1 <| On <| Ht.pad (Ht.pad ?_)
 refine Hf [5, 6, 7, 9, 10, 11, 12, 13, 14, 15, 16] (Sm 151 (lY n x p y q [⟨0, 0⟩] (.fl .nonfull) 6 (.fl .nil) 6 (.fl .nil) 7 5) [w27 a, w27 b, .dead, z28, z30, oC [⟨0, 0⟩], .dead, .dead]) ?_
 exact main29 hn (L := [⟨0, 0⟩]) ⟨rfl, rfl, rfl, rfl, rfl, rfl, by decide⟩ (by simp) (by simp) hv ho om
theorem is29 : Is Try.prog 29 := ⟨Try.f29, Try.func29, kr, kr⟩
theorem call29 (m : Nat) (hn : n ≤ 300) (h : f29 m a b n = some o) : CallT False Try.prog 29 [.v (e27 a), .v (e27 b), dP eI (numL n)] [] fun d h' => d = .v (.tuple [e27 o.1, e29 o.2]) ∧ h' = [] :=
 callN (c := bodyOf Try.prog 29) (N := 6) Try.func29 kr TM_ok ((wk29 m hn h).mono fun e σ hf => hf)
end Go.Abs.Ty
