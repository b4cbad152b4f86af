import Derived.Test.YtgmbaemdedachaaTI
namespace Go.Abs.Tg
open Go.Sort Go.Proofs Go.Abs.Ta Go.Abs.Tb Go.Abs.Tc Go.Abs.Te Go.Abs.Tf
set_option linter.unusedVariables false
set_option linter.unusedSimpArgs false
set_option linter.unnecessarySimpa false
set_option maxRecDepth 100000
set_option maxHeartbeats 4000000
open Go.Abs.Uv in
def cC (b N : Nat) (R : List (List Int)) : List D := (List.range N).map fun t => match R[t]? with
 | some r => clD (b + t) (r.map eI)
 | none => .v nilS
section
open Go.Abs.Uv
theorem cC_len (b N : Nat) (R : List (List Int)) : (cC b N R).length = N := by simp [cC]
theorem cC_zero (b N : Nat) : List.replicate N (D.v nilS) = cC b N [] := by
 unfold cC
 refine List.ext_getElem (by simp) fun i h1 h2 => ?_
 simp
theorem cC_get {b N : Nat} {R : List (List Int)} {t : Nat} {r : List Int} (hr : R[t]? = some r) (ht : t < N) : (cC b N R)[t]? = some (clD (b + t) (r.map eI)) := by
 rw [zA (by rw [cC_len]; exact ht)]
 simp [cC, hr]
theorem cC_add (b N : Nat) (R : List (List Int)) (r : List Int) (hi : R.length < N) : (cC b N R).set R.length (clD (b + R.length) (r.map eI)) = cC b N (R ++ [r]) := by
 unfold cC
 refine List.ext_getElem (by simp) fun j h1 h2 => ?_
 rw [List.getElem_set]
 simp only [List.getElem_map, List.getElem_range]
 by_cases h : R.length = j
 ·subst h; rw [if_pos rfl, zK (zL _), Nat.sub_self]; rfl
 ·rw [if_neg h]
  by_cases h3 : j < R.length
  ·rw [zJ h3]
  ·rw [zS om, zS (by simp; omega)]
theorem clD_len {n : Nat} {xs ys : List V} (h : xs.length = ys.length) : clD n xs = clD n ys := by
 cases xs with
 | nil => cases ys with
  | nil => rfl
  | cons _ _ => cases h
 | cons a r => cases ys with
  | nil => cases h
  | cons b s => simp only [clD, h]
theorem cC_set (b N : Nat) (R : List (List Int)) (r r' : List Int) (h : r.length = r'.length) : cC b N (R ++ [r]) = cC b N (R ++ [r']) := by
 unfold cC
 refine List.map_congr_left fun t _ => ?_
 by_cases h1 : t < R.length
 ·rw [zJ h1, zJ h1]
 ·rw [zK om, zK om]
  by_cases h2 : t - R.length = 0
  ·rw [h2]
   exact clD_len (by simp [h])
  ·obtain ⟨z, hz⟩ : ∃ z, t - R.length = z + 1 := ⟨t - R.length - 1, om⟩
   rw [hz]; rfl
structure T4 (G : List AObj) (q b N : Nat) (R : List (List Int)) : Prop where
 out : G[q]? = some (.cells (cC b N R))
 row : ∀ (t : Nat) r, R[t]? = some r → G[b + t]? = some (clO (r.map eI))
 qb : q < b
 q2 : 2 ≤ q
theorem clO_ne {r : List Int} (h : r ≠ []) : clO (r.map eI) = oI r := by
 cases r with
 | nil => exact absurd rfl h
 | cons _ _ => rfl
theorem T4.frz {G : List AObj} {q b : Nat} {R : List (List Int)} (h : T4 G q b R.length R) (n : Nat) : Abs.frz G (n + 2) (sI q R.length) = some (eL (eL eI) R) := by
 have one : ∀ (t : Nat) r, R[t]? = some r → Abs.frz G (n + 1) (clD (b + t) (r.map eI)) = some (eL eI r) := fun t r hr => by
  have h1 := h.row t r hr
  cases r with
  | nil => rfl
  | cons a s =>
   have := frz_row (n := n) h1
   simp only [clD]
   exact this
 have hall : allM (Abs.frz G (n + 1)) (cC b R.length R) = some (R.map (eL eI)) := by
  have e2 : R.map (eL eI) = (cC b R.length R).map fun d => (Abs.frz G (n + 1) d).getD (.bool false) := by
   refine List.ext_getElem (by simp [cC_len]) fun i h1 h2 => ?_
   have hi : i < R.length := by simpa using h1
   have hr : R[i]? = some R[i] := zA hi
   have hc : (cC b R.length R)[i]? = some (clD (b + i) (R[i].map eI)) := cC_get hr hi
   rw [zA (by rw [cC_len]; exact hi)] at hc
   simp only [List.getElem_map]
   rw [zC hc, one i R[i] hr]
   rfl
  rw [e2]
  refine allM_map fun d hd => ?_
  obtain ⟨i, hi, rfl⟩ := List.getElem_of_mem hd
  have hi' : i < R.length := by rw [cC_len] at hi; exact hi
  have hr : R[i]? = some R[i] := zA hi'
  have hc : (cC b R.length R)[i]? = some (clD (b + i) (R[i].map eI)) := cC_get hr hi'
  rw [zA (by rw [cC_len]; exact hi')] at hc
  rw [zC hc, one i R[i] hr]
  rfl
 have hsc : (R.map (eL eI)).all V.scalar = true := by
  rw [List.all_map]
  exact zZ.2 fun x _ => rfl
 show Abs.frz G (n + 1 + 1) (.osl q 0 R.length false) = _
 simp only [Abs.frz, h.out]
 rw [if_pos (by rw [cC_len]; omega), List.drop_zero, zX (by rw [cC_len]; omega)]
 rw [hall]
 simp only [hsc, if_true]
 rfl
end
def loH (G : List AObj) : List AObj := G.mapIdx fun i o => if i < 2 then o else .dead
def hiH (G : List AObj) : List AObj := G.mapIdx fun i o => if i < 2 then .dead else o
theorem loH_get (G : List AObj) (i : Nat) : (loH G)[i]? = (G[i]?).map fun o => if i < 2 then o else .dead := by simp [loH]
theorem hiH_get (G : List AObj) (i : Nat) : (hiH G)[i]? = (G[i]?).map fun o => if i < 2 then .dead else o := by simp [hiH]
theorem Z.lo {G} (h : Z G) : Z (loH G) := ⟨by rw [loH_get, h.g0]; rfl, by rw [loH_get, h.g1]; rfl⟩
variable {G : List AObj} {Q : Post} {R : List (List Int)} {b q : Nat}
theorem Ht.freezeT {c : Code} {tmps : List D} {t : Nat} (ht : tmps[t]? = some (sI q R.length)) (h : T4 G q b R.length R)
  (hh : HT c ⟨tmps.set t (dP (eL eI) R), loH G⟩ Q) : HT c ⟨tmps, G⟩ Q := by
 have hf : Abs.frz (hiH G) 4 (sI q R.length) = some (eL (eL eI) R) := by
  -- the frozen part holds the same table
  have key : ∀ (i : Nat) (o : AObj), 2 ≤ i → G[i]? = some o → (hiH G)[i]? = some o := fun i o hi ho => by rw [hiH_get, ho]; simp [show ¬ i < 2 by omega]
  have hz : T4 (hiH G) q b R.length R := ⟨key _ _ h.q2 h.out, fun t r hr => key _ _ (by have := h.qb; have := h.q2; omega) (h.row t r hr), h.qb, h.q2⟩
  exact hz.frz 2
 refine Ht.freezeL (h1 := loH G) (h2 := hiH G) (n := 4) (x := eL (eL eI) R) ht hf (by simp [loH]) (by simp [hiH]) ?_ ?_ ?_ hh
 ·intro i y hi hl
  rw [loH_get] at hi
  obtain ⟨o, ho, he⟩ := zB.1 hi
  split at he
  ·rw [← he]; exact ho
  ·rw [← he] at hl; cases hl
 ·intro i y hi hl
  rw [hiH_get] at hi
  obtain ⟨o, ho, he⟩ := zB.1 hi
  split at he
  ·rw [← he] at hl; cases hl
  ·rw [← he]; exact ho
 ·intro i y z hi hl hz hlz
  rw [loH_get] at hi
  rw [hiH_get] at hz
  obtain ⟨o, ho, he⟩ := zB.1 hi
  obtain ⟨o', ho', he'⟩ := zB.1 hz
  split at he
  ·rename_i hlt
   rw [if_pos hlt] at he'
   rw [← he'] at hlz; cases hlz
  ·rw [← he] at hl; cases hl
noncomputable abbrev RC47 : Code := cR (cR RB47)
noncomputable abbrev RD47 : Code := cR (cR RC47)
noncomputable abbrev LR47 : Code := cL RD47
noncomputable abbrev BR47 : Code := cL (cL (cR (cR (cL (cL (cR LR47))))))
noncomputable abbrev LQ47 : Code := cR (cR BR47)
abbrev lV (labels : List Int) (next : List (List Int)) (fin Us : List Bool) : List (Nat × D) := [(0, dP eI labels), (1, dP (eL eI) next), (2, dP eB fin), (6, .ptr 0 0), (7, .ptr 1 0), (14, dP eB Us)]
abbrev KV : List Nat := [0, 1, 2, 6, 7, 14]
structure P4 (G : List AObj) (q b N : Nat) (R : List (List Int)) : Prop where
 z : Z G
 t : T4 G q b N R
 len : G.length = b + R.length
variable {N : Nat}
theorem P4.set {cur cur' : List Int} (h : P4 G q b N (R ++ [cur])) (hl : cur.length = cur'.length) (hne : cur ≠ []) : P4 (G.set (b + R.length) (oI cur')) q b N (R ++ [cur']) := by
 have hqb := h.t.qb
 have hq2 := h.t.q2
 have hrow : G[b + R.length]? = some (Uv.clO (cur.map eI)) := h.t.row R.length cur (by rw [zK (zL _), Nat.sub_self]; rfl)
 refine ⟨h.z.set om _, ⟨?_, fun t r hr => ?_, hqb, hq2⟩, by rw [zP, h.len]; simp⟩
 ·rw [← cC_set b N R cur cur' hl]
  exact set_keep om h.t.out
 ·by_cases e : t < R.length
  ·rw [zJ e] at hr
   exact set_keep om (h.t.row t r (by rw [zJ e]; exact hr))
  ·rw [zK om] at hr
   have ht : t = R.length := by have := yE hr; simp at this; omega
   subst ht
   rw [Nat.sub_self] at hr
   cases hr
   rw [clO_ne (fun e => by rw [e] at hl; simp at hl; exact hne hl)]
   exact set_new hrow
theorem cut47 (n : Nat) {labels : List Int} {next : List (List Int)} {fin Us : List Bool} {row goal : List Int} {a1 a2 a3 : D} (hN2 : N ≤ 20000) (hRN : R.length < N) (hrow : row.length ≤ 20000) (hg : cutRow Us row = some goal) (hI : P4 G q b N (R ++ [row]))
  (hQ : ∀ G σ, P4 G q b N (R ++ [goal]) → Abs.forget (16 :: 117 :: 118 :: 119 :: KV) σ = Sm 284 ((16, sI q N) :: (117, a1) :: (118, a2) :: (119, a3) :: lV labels next fin Us) G → Q .normal σ) :
  HT LQ47 (Sm 284 ((16, sI q N) :: (17, dI R.length) :: (18, dP eI row) :: (117, a1) :: (118, a2) :: (119, a3) :: lV labels next fin Us) G) Q := by
 have hxn := hxM n
 refine Hs <| Hr hxn <| Og 1 <| Oo (fun h0 e0 => lr h0 62 3 eI row) <| Og 1 <| On <| Hb 8 <| Ht.loop (fun k σ => ∃ (j : Nat) (done rest : List Int) (G : List AObj), j + k = row.length ∧ done.length = j ∧ cutRow Us (row.drop j) = some rest ∧ goal = done ++ rest ∧ P4 G q b N (R ++ [done ++ row.drop j]) ∧
  Abs.forget (16 :: 17 :: 117 :: 118 :: 119 :: 129 :: 130 :: 131 :: KV) σ = Sm 284 ((16, sI q N) :: (17, dI R.length) :: (117, a1) :: (118, a2) :: (119, a3) :: (129, dP eI row) :: (130, dI row.length) :: (131, dI j) :: lV labels next fin Us) G) row.length kr
  ⟨0, [], goal, G, om, rfl, hg, rfl, hI, kr⟩ ?_
 clear hI hg
 rintro k σ ⟨j, done, rest, G, hk, hd, hg, rfl, hI, hσ⟩
 refine Hg (16 :: 17 :: 117 :: 118 :: 119 :: 129 :: 130 :: 131 :: KV) hσ ?_
 clear hσ
 refine Hs <| Hr hxn <| Og 1 <| On <| Hs <| Hd ((j : Int) < (row.length : Int)) (fun hc => ?_) (fun hc => ?_)
 case refine_2 =>
  have hj : j = row.length := by omega
  rw [hj, List.drop_length] at hg hI
  cases hg
  refine Ht.exit (id := 8) kr ?_
  show blkH 8 Q (AExit.exit 8) _
  exact blkH.x (hQ G _ hI kr)
 have hlt : j < row.length := by omega
 rw [zI hlt] at hg hI
 have hx : row[j]? = some row[j] := zA hlt
 generalize row[j] = to at hg hx hI
 refine Hk <| seqH.n <| Hs <| Hb 9 ?_
 have ix : idx row (j : Int) = some to := by rw [idx_get]; exact hx
 refine Hs <| Hr hxn <| Og 1 <| Oo (fun h0 e0 => xr h0 62 3 1 eI row j to ix) <| Og 3 <| On ?_
 have last : ∀ (y : Int) (rest' : List Int) (G : List AObj) σ, P4 G q b N (R ++ [done ++ y :: row.drop (j + 1)]) → cutRow Us (row.drop (j + 1)) = some rest' → rest = y :: rest' → Abs.forget (16 :: 17 :: 117 :: 118 :: 119 :: 129 :: 130 :: 131 :: KV) σ = Sm 284 ((16, sI q N) :: (17, dI R.length) :: (117, a1) :: (118, a2) :: (119, a3) :: (129, dP eI row) :: (130, dI row.length) :: (131, dI j) :: lV labels next fin Us) G →
   HT (cR (cR (cR (cL (cL (cR LQ47)))))) σ (lpH (fun k σ => ∃ (j : Nat) (done' rest' : List Int) (G : List AObj), j + k = row.length ∧ done'.length = j ∧ cutRow Us (row.drop j) = some rest' ∧ done ++ rest = done' ++ rest' ∧ P4 G q b N (R ++ [done' ++ row.drop j]) ∧
  Abs.forget (16 :: 17 :: 117 :: 118 :: 119 :: 129 :: 130 :: 131 :: KV) σ = Sm 284 ((16, sI q N) :: (17, dI R.length) :: (117, a1) :: (118, a2) :: (119, a3) :: (129, dP eI row) :: (130, dI row.length) :: (131, dI j) :: lV labels next fin Us) G) k (blkH 8 Q)) := by
  intro y rest' G σ hI hg hr hσ
  refine Hg (16 :: 17 :: 117 :: 118 :: 119 :: 129 :: 130 :: 131 :: KV) hσ <| Hr hxn <| Og 2 <| Od <| ⟨k - 1, om, j + 1, done ++ [y], rest', G, om, by simp [hd], hg, by rw [hr]; simp, ?_, ?_⟩
  ·rw [List.append_assoc]; exact hI
  ·rw [← w64_nat om]
   kernel_rfl
 have hg : (if 0 ≤ to then match idx Us to, cutRow Us (row.drop (j + 1)) with
   | some u, some r' => some ((if u then to else -1) :: r')
   | _, _ => none
  else (cutRow Us (row.drop (j + 1))).map (to :: ·)) = some rest := hg
 refine Hs ?_
 by_cases hto : 0 ≤ to
 ·rw [if_pos hto] at hg
  obtain ⟨u, hu⟩ : ∃ y, idx Us to = some y := by
   cases h : idx Us to with
   | none => rw [h] at hg; cases hg
   | some y => exact ⟨y, rfl⟩
  obtain ⟨r', hr'⟩ : ∃ y, cutRow Us (row.drop (j + 1)) = some y := by
   cases h : cutRow Us (row.drop (j + 1)) with
   | none => rw [hu, h] at hg; cases hg
   | some y => exact ⟨y, rfl⟩
  rw [hu, hr'] at hg
  have hg : some ((if u then to else -1) :: r') = some rest := hg
  have ge : ∀ h : List AObj, (binD TM .geq 3 (D.unt (dI to)) (D.unt (dI 0))).map (·, h) = some (dB true, h) := fun h => by
   show some (D.v (.bool (decide (to ≥ 0))), h) = _
   rw [decide_eq_true hto]
  refine Hr hxn <| Og 1 <| Oo (fun h0 e0 => ge h0) <| Og 3 <| Oo (fun h0 e0 => xr h0 66 4 1 eB Us to u hu) <| Og 3 <| On ?_
  cases u with
  | true =>
   refine Hz <| Hk <| blkH.n <| seqH.n ?_
   exact last to r' G _ hI hr' (zC hg).symm kr
  | false =>
   refine Hy ?_
   have hrow : G[b + R.length]? = some (oI (done ++ to :: row.drop (j + 1))) := by
    have := hI.t.row R.length (done ++ to :: row.drop (j + 1)) (by rw [zK (zL _), Nat.sub_self]; rfl)
    rw [clO_ne (by simp)] at this
    exact this
   have hcell : (cC b N (R ++ [done ++ to :: row.drop (j + 1)]))[R.length]? = some (sI (b + R.length) row.length) := by
    rw [cC_get (r := done ++ to :: row.drop (j + 1)) (by rw [zK (zL _), Nat.sub_self]; rfl) hRN]
    have hl : (done ++ to :: row.drop (j + 1)).length = row.length := by simp [hd]; omega
    cases hz : done ++ to :: row.drop (j + 1) with
    | nil => simp at hz
    | cons x xs =>
     rw [hz] at hl
     show some (D.osl (b + R.length) 0 (eI x :: xs.map eI).length false) = _
     rw [show (eI x :: xs.map eI).length = row.length by simpa using hl]
   refine Hr hxn <| Og 2 <| Oo (fun h0 e0 => ixO (N := N) (i := R.length) (Hw e0 hI.t.out) rfl hRN) <| Oo (fun h0 e0 => ldO (Hw e0 hI.t.out) hcell) <| Og 1 <| Oo (fun h0 e0 => ixI (N := row.length) (i := j) (Hw e0 hrow) rfl hlt) <| Oo (fun h0 e0 => stI (i := j) (x := -1) (Hw e0 hrow) (by rw [List.length_append, hd]; simp)) <| Od <| blkH.n <| seqH.n ?_
   have hset : (done ++ to :: row.drop (j + 1)).set j (-1) = done ++ (-1) :: row.drop (j + 1) := by
    rw [← hd, List.set_append_right _ _ (zL _), Nat.sub_self]; rfl
   refine last (-1) r' (G.set (b + R.length) (oI ((done ++ to :: row.drop (j + 1)).set j (-1)))) _ ?_ hr' (zC hg).symm kr
   rw [hset]
   exact hI.set (by simp) (by simp)
 ·rw [if_neg hto] at hg
  obtain ⟨r', hr', hr2⟩ := zB.1 hg
  have ge : ∀ h : List AObj, (binD TM .geq 3 (D.unt (dI to)) (D.unt (dI 0))).map (·, h) = some (dB false, h) := fun h => by
   show some (D.v (.bool (decide (to ≥ 0))), h) = _
   rw [decide_eq_false om]
  refine Hr hxn <| Og 1 <| Oo (fun h0 e0 => ge h0) <| Og 7 <| On <| Hz <| Hk <| blkH.n <| seqH.n ?_
  exact last to r' G _ hI hr' hr2.symm kr
set_option maxHeartbeats 4000000
theorem clnR_eq {row : List Int} (hrow : row.length ≤ 20000) (h : List AObj) : Uv.clnR [dP eI row] h = some (Uv.clD h.length (row.map eI), h ++ [Uv.clO (row.map eI)]) := by
 show (if _ then _ else none) = _
 rw [if_pos ⟨by rw [List.length_map]; omega, by unfold maxLen; rw [List.length_map]; omega, by cases row <;> rfl⟩]
theorem clD_one (n : Nat) (xs : List V) : (Uv.clD n xs).solid = true ∧ (Uv.clD n xs).cells = [Uv.clD n xs] := by cases xs <;> exact ⟨rfl, rfl⟩
variable {G : List AObj} {Q : Post} {fin : List Bool} {labels : List Int}
theorem rows47 (n : Nat) {next : List (List Int)} {Us : List Bool} {N q b : Nat} {goal : List (List Int)} (hN : next.length = N) (hN2 : N ≤ 20000) (hrows : ∀ r ∈ next, r.length ≤ 20000) (hg : cutAll Us next = some goal) (hI : P4 G q b N [])
  (hQ : ∀ G σ, P4 G q b N goal → goal.length = N → Abs.forget (16 :: KV) σ = Sm 284 ((16, sI q N) :: lV labels next fin Us) G → Q .normal σ) :
  HT LR47 (Sm 284 ((16, sI q N) :: lV labels next fin Us) G) Q := by
 have hxn := hxM n
 refine Hs <| Hr hxn <| Og 1 <| Oo (fun h0 e0 => lr h0 65 62 (eL eI) next) <| Og 1 <| On <| Hb 6 <| Ht.loop (fun k σ => ∃ (s : Nat) (R rest : List (List Int)) (G : List AObj), s + k = N ∧ R.length = s ∧ cutAll Us (next.drop s) = some rest ∧ goal = R ++ rest ∧ P4 G q b N R ∧
  Abs.forget (16 :: 117 :: 118 :: 119 :: KV) σ = Sm 284 ((16, sI q N) :: (117, dP (eL eI) next) :: (118, dI next.length) :: (119, dI s) :: lV labels next fin Us) G) N kr
  ⟨0, [], goal, G, om, rfl, hg, rfl, hI, kr⟩ ?_
 clear hI hg
 rintro k σ ⟨s, R, rest, G, hk, hR, hg, rfl, hI, hσ⟩
 refine Hg (16 :: 117 :: 118 :: 119 :: KV) hσ ?_
 clear hσ
 refine Hs <| Hr hxn <| Og 1 <| On <| Hs <| Hd ((s : Int) < (next.length : Int)) (fun hc => ?_) (fun hc => ?_)
 case refine_2 =>
  have hs : s = next.length := by omega
  rw [hs, List.drop_length] at hg
  cases hg
  refine Ht.exit (id := 6) kr ?_
  show blkH 6 Q (AExit.exit 6) _
  rw [List.append_nil] at hQ
  exact blkH.x (hQ G _ hI om kr)
 have hlt : s < next.length := by omega
 rw [zI hlt] at hg
 have hx : next[s]? = some next[s] := zA hlt
 have hmem : next[s] ∈ next := List.getElem_mem hlt
 generalize next[s] = row at hg hx hmem
 have hg : (match cutRow Us row, cutAll Us (next.drop (s + 1)) with
  | some a, some b => some (a :: b)
  | _, _ => none) = some rest := hg
 obtain ⟨row', hr'⟩ : ∃ y, cutRow Us row = some y := by
  cases h : cutRow Us row with
  | none => rw [h] at hg; cases hg
  | some y => exact ⟨y, rfl⟩
 obtain ⟨rest', hrest'⟩ : ∃ y, cutAll Us (next.drop (s + 1)) = some y := by
  cases h : cutAll Us (next.drop (s + 1)) with
  | none => rw [hr', h] at hg; cases hg
  | some y => exact ⟨y, rfl⟩
 rw [hr', hrest'] at hg
 have hg := zC hg
 subst hg
 refine Hk <| seqH.n <| Hs <| Hb 7 ?_
 have ix : idx next (s : Int) = some row := by rw [idx_get]; exact hx
 have hrl := hrows row hmem
 refine Hs <| Hr hxn <| Og 1 <| Oo (fun h0 e0 => xr h0 65 62 1 (eL eI) next s row ix) <| Og 3 <| On ?_
 have hxi := hxI false n Uv.Cln.is65 (dcall Uv.orad65 (clnR_eq hrl G))
 have hq2 := hI.t.q2
 have hqb := hI.t.qb
 have hout : (G ++ [Uv.clO (row.map eI)])[q]? = some (.cells (cC b N R)) := app_keep hI.t.out
 have hRN : R.length < N := by omega
 refine Hs <| Hr hxi <| Og 3 <| Oo (fun h0 e0 => callI (row := false) (n := n) (f0 := 65) (ds0 := [dP eI row]) (ds := [dP eI row]) (h0 := G) (h := h0) (d0 := Uv.clD G.length (row.map eI)) (h1 := G ++ [Uv.clO (row.map eI)]) rfl (e0.trans kr)) <| Oo (fun h0 e0 => ixO (N := N) (i := s) (Hw (g := G ++ [Uv.clO (row.map eI)]) e0 hout) rfl om) <| Oo (fun h0 e0 => stD (i := s) (x := Uv.clD G.length (row.map eI)) (Hw (g := G ++ [Uv.clO (row.map eI)]) e0 hout) (by rw [cC_len]; omega) (clD_one _ _)) <| On ?_
 have hI2 : P4 ((G ++ [Uv.clO (row.map eI)]).set q (.cells ((cC b N R).set s (Uv.clD G.length (row.map eI))))) q b N (R ++ [row]) := by
  rw [hI.len, ← hR, cC_add b N R row hRN]
  refine ⟨(hI.z.app _).set hq2 _, ⟨set_new hout, fun t r hr => ?_, hqb, hq2⟩, by rw [zP, List.length_append, List.length_append, hI.len]; simp; omega⟩
  by_cases e : t < R.length
  ·rw [zJ e] at hr
   exact set_keep om (app_keep (hI.t.row t r hr))
  ·rw [zK om] at hr
   have ht : t = R.length := by have := yE hr; simp at this; omega
   subst ht
   rw [Nat.sub_self] at hr
   cases hr
   refine set_keep om ?_
   rw [← hI.len]
   exact mid_get _ _ _
 refine Hf (16 :: 17 :: 18 :: 117 :: 118 :: 119 :: KV) (Sm 284 ((16, sI q N) :: (17, dI s) :: (18, dP eI row) :: (117, dP (eL eI) next) :: (118, dI next.length) :: (119, dI s) :: lV labels next fin Us) ((G ++ [Uv.clO (row.map eI)]).set q (.cells ((cC b N R).set s (Uv.clD G.length (row.map eI)))))) ?_
 generalize (G ++ [Uv.clO (row.map eI)]).set q (.cells ((cC b N R).set s (Uv.clD G.length (row.map eI)))) = M at hI2 ⊢
 rw [show ((17, dI (s : Int)) : Nat × D) = (17, dI (R.length : Int)) by rw [hR]]
 refine cut47 n hN2 hRN hrl hr' hI2 fun G σ hI hσ => ?_
 refine blkH.n <| seqH.n <| Hg (16 :: 117 :: 118 :: 119 :: KV) hσ <| Hr hxn <| Og 2 <| Od <| ⟨k - 1, om, s + 1, R ++ [row'], rest', G, om, by simp [hR], hrest', by simp, hI, ?_⟩
 rw [← w64_nat om]
 kernel_rfl
noncomputable abbrev RE47 : Code := cR RD47
noncomputable abbrev LS47 : Code := cL (cR (cR RE47))
noncomputable abbrev RF47 : Code := cR (cR (cR RE47))
noncomputable abbrev LP47 : Code := cL (cR RF47)
abbrev lW (labels : List Int) (rows : List (List Int)) (fin : List Bool) (cls : List Int) (count : Int) : List (Nat × D) := [(0, dP eI labels), (2, dP eB fin), (6, .ptr 0 0), (7, .ptr 1 0), (16, dP (eL eI) rows), (21, dP eI cls), (22, dI count)]
abbrev KW : List Nat := [0, 2, 6, 7, 16, 21, 22]
variable {c : Nat} {cls : List Int} {count : Int} {rows : List (List Int)}
theorem some47 (n : Nat) {qs : Nat} {S goal : List Int} (hcl : cls.length = rows.length) (hN2 : rows.length ≤ 20000) (hg : somes cls 0 S = some goal) (hz : Z G) (hq : G[qs]? = some (oI S)) (hS : S.length = c)
  (hQ : ∀ G σ, Z G → G[qs]? = some (oI goal) → goal.length = c → Abs.forget (23 :: KW) σ = Sm 284 ((23, sI qs c) :: lW labels rows fin cls count) G → Q .normal σ) :
  HT LS47 (Sm 284 ((23, sI qs c) :: lW labels rows fin cls count) G) Q := by
 have hxn := hxM n
 refine Hs <| Hr hxn <| Og 1 <| Oo (fun h0 e0 => lr h0 65 62 (eL eI) rows) <| Og 1 <| On <| Hb 10 <| Ht.loop (fun k σ => ∃ (s : Nat) (S : List Int) (G : List AObj), s + k = rows.length ∧ somes (cls.drop s) s S = some goal ∧ Z G ∧ G[qs]? = some (oI S) ∧ S.length = c ∧
  Abs.forget (23 :: 162 :: 163 :: KW) σ = Sm 284 ((23, sI qs c) :: (162, dI rows.length) :: (163, dI s) :: lW labels rows fin cls count) G) rows.length kr
  ⟨0, S, G, om, hg, hz, hq, hS, kr⟩ ?_
 clear hz hq hS hg
 rintro k σ ⟨s, S, G, hk, hg, hz, hq, hS, hσ⟩
 refine Hg (23 :: 162 :: 163 :: KW) hσ ?_
 clear hσ
 refine Hs <| Hr hxn <| Og 1 <| On <| Hs <| Hd ((s : Int) < (rows.length : Int)) (fun hc => ?_) (fun hc => ?_)
 case refine_2 =>
  have hs : s = cls.length := by omega
  rw [hs, List.drop_length] at hg
  cases hg
  refine Ht.exit (id := 10) kr ?_
  show blkH 10 Q (AExit.exit 10) _
  exact blkH.x (hQ G _ hz hq hS kr)
 have hlt : s < cls.length := by omega
 rw [zI hlt] at hg
 have hx : cls[s]? = some cls[s] := zA hlt
 generalize cls[s] = cs at hg hx
 have hg : (match upd S cs (s : Int) with
  | none => none
  | some S' => somes (cls.drop (s + 1)) (s + 1) S') = some goal := hg
 obtain ⟨S', hS'⟩ : ∃ y, upd S cs (s : Int) = some y := by
  cases h : upd S cs (s : Int) with
  | none => rw [h] at hg; cases hg
  | some y => exact ⟨y, rfl⟩
 rw [hS'] at hg
 obtain ⟨u1, u2, rfl⟩ := upd_some hS'
 obtain ⟨i, hi⟩ : ∃ i : Nat, cs = (i : Int) := ⟨cs.toNat, om⟩
 have e1 : cs.toNat = i := by omega
 rw [e1] at u2 hg
 have ix : idx cls (s : Int) = some cs := by rw [idx_get]; exact hx
 refine Hk <| seqH.n <| Hs <| Hb 11 <| Hs <| Hr hxn <| Og 2 <| On <| Hr hxn <| Og 3 <| Oo (fun h0 e0 => xr h0 62 3 1 eI cls s cs ix) <| Og 2 <| Oo (fun h0 e0 => ixI (N := c) (i := i) (Hw e0 hq) hi om) <| Oo (fun h0 e0 => stI (i := i) (x := s) (Hw e0 hq) u2) <| Od <| blkH.n <| seqH.n <| Hf (23 :: 162 :: 163 :: KW) (Sm 284 ((23, sI qs c) :: (162, dI rows.length) :: (163, dI s) :: lW labels rows fin cls count) (G.set qs (oI (S.set i s)))) <| Hr hxn <| Og 2 <| Od <| ⟨k - 1, om, s + 1, S.set i s, G.set qs (oI (S.set i s)), om, hg, hz.set (hz.pos hq) _, set_new hq, by rw [zP]; exact hS, ?_⟩
 rw [← w64_nat om]
 kernel_rfl
theorem place47 (n : Nat) {qp : Nat} {S : D} (hc2 : c ≤ 20000) (hz : Z G) (hq : G[qp]? = some (oI (List.replicate c 0)))
  (hQ : ∀ G σ, Z G → G[qp]? = some (oI (List.replicate c (-1))) → Abs.forget (23 :: 25 :: KW) σ = Sm 284 ((23, S) :: (25, sI qp c) :: lW labels rows fin cls count) G → Q .normal σ) :
  HT LP47 (Sm 284 ((23, S) :: (25, sI qp c) :: lW labels rows fin cls count) G) Q := by
 have hxn := hxM n
 refine Hs <| Hr hxn <| Og 1 <| Oo (fun h0 e0 => lenI (h := h0) (q := qp) (N := c)) <| Og 1 <| On <| Hb 12 <| Ht.loop (fun k σ => ∃ (s : Nat) (G : List AObj), s + k = c ∧ Z G ∧ G[qp]? = some (oI (List.replicate s (-1) ++ List.replicate k 0)) ∧
  Abs.forget (23 :: 25 :: 177 :: 178 :: KW) σ = Sm 284 ((23, S) :: (25, sI qp c) :: (177, dI c) :: (178, dI s) :: lW labels rows fin cls count) G) c kr
  ⟨0, G, om, hz, hq, kr⟩ ?_
 clear hz hq
 rintro k σ ⟨s, G, hk, hz, hq, hσ⟩
 refine Hg (23 :: 25 :: 177 :: 178 :: KW) hσ ?_
 clear hσ
 refine Hs <| Hr hxn <| Og 1 <| On <| Hs <| Hd ((s : Int) < (c : Int)) (fun hc => ?_) (fun hc => ?_)
 case refine_2 =>
  have hs : s = c := by omega
  have hk0 : k = 0 := by omega
  subst hs hk0
  refine Ht.exit (id := 12) kr ?_
  show blkH 12 Q (AExit.exit 12) _
  exact blkH.x (hQ G _ hz (by simpa using hq) kr)
 refine Hk <| seqH.n <| Hs <| Hb 13 <| Hs <| Hr hxn <| Og 2 <| On <| Hr hxn <| Og 2 <| Oo (fun h0 e0 => ixI (N := c) (i := s) (Hw e0 hq) rfl om) <| Oo (fun h0 e0 => stI (i := s) (x := -1) (Hw e0 hq) (by simp; omega)) <| Od <| blkH.n <| seqH.n <| Hf (23 :: 25 :: 177 :: 178 :: KW) (Sm 284 ((23, S) :: (25, sI qp c) :: (177, dI c) :: (178, dI s) :: lW labels rows fin cls count) (G.set qp (oI ((List.replicate s (-1) ++ List.replicate k 0).set s (-1))))) ?_
 have hset : (List.replicate s (-1 : Int) ++ List.replicate k 0).set s (-1) = List.replicate (s + 1) (-1) ++ List.replicate (k - 1) 0 := by
  obtain ⟨j, rfl⟩ : ∃ j, k = j + 1 := ⟨k - 1, om⟩
  rw [List.set_append_right _ _ (by simp), zV, Nat.sub_self, List.replicate_succ (n := j)]
  show List.replicate s (-1) ++ (-1 :: List.replicate j 0) = _
  rw [List.replicate_succ' (n := s)]
  simp
 rw [hset]
 refine Hr hxn <| Og 2 <| Od <| ⟨k - 1, om, s + 1, G.set qp (oI (List.replicate (s + 1) (-1) ++ List.replicate (k - 1) 0)), om, hz.set (hz.pos hq) _, set_new hq, ?_⟩
 rw [← w64_nat om]
 kernel_rfl
set_option maxHeartbeats 4000000
variable {ag : AG} {k k' : Nat} {xs : List V}
theorem o_row {es : List V} (h : AG.o ag k xs = .row k' es) : False := by cases ag <;> cases h
theorem o_cells {cs : List D} (h : AG.o ag k xs = .cells cs) : False := by cases ag <;> cases h
variable {ag' : AG} {xs' : List V}
theorem o_two (h : AG.o ag k xs = AG.o ag' k' xs') (hne : k ≠ k') : AG.o ag k xs = .dead := by
 cases ag with
 | fl f => rfl
 | tok => cases ag' with
  | fl f => cases h
  | tok => simp only [AG.o, AObj.tok.injEq] at h; exact absurd h.1 hne
theorem set_dead {G : List AObj} {q q' : Nat} (h : G[q]? = some (AG.o ag k xs)) (h' : G[q']? = some (AG.o ag' k' xs')) (hne : k ≠ k') : (G.set q .dead)[q']? = some (AG.o ag' k' xs') := by
 by_cases e : q = q'
 ·subst e
  rw [h] at h'
  have e1 := o_two (zC h') hne
  rw [zQ (yE h), ← zC h', e1]
 ·exact set_keep e h'
structure MI (G : List AObj) (c qp : Nat) (P : List Int) (go : AG) (qo : Nat) (O : List Int) (ro : Nat) (ga : AG) (qa : Nat) (A : List S52) (gf : AG) (qf : Nat) (F : List S54) : Prop where
 z : Z G
 pl : G[qp]? = some (oI P)
 lp : P.length = c
 o : G[qo]? = some (AG.o go 1 (O.map eI))
 m : G[ro]? = some (.cells [dI 0, AG.d ga qa (A.map e52), AG.d gf qf (F.map e54)])
 r2 : 2 ≤ ro
 a : G[qa]? = some (AG.o ga 5 (A.map e52))
 f : G[qf]? = some (AG.o gf 2 (F.map e54))
section
variable {G : List AObj} {c qp : Nat} {P : List Int} {go : AG} {qo : Nat} {O : List Int} {ro : Nat} {ga : AG} {qa : Nat} {A : List S52} {gf : AG} {qf : Nat} {F : List S54}
theorem Z.notO (h : Z G) {q k : Nat} {ag : AG} {xs : List V} (hq : G[q]? = some (AG.o ag k xs)) : 2 ≤ q := by
 match q, hq with
 | 0, hq => rw [h.g0] at hq; exact (o_cells (zC hq).symm).elim
 | 1, hq => rw [h.g1] at hq; exact (o_cells (zC hq).symm).elim
 | q + 2, _ => omega
theorem MI.place (h : MI G c qp P go qo O ro ga qa A gf qf F) (j : Nat) (x : Int) : MI (G.set qp (oI (P.set j x))) c qp (P.set j x) go qo O ro ga qa A gf qf F := by
 have n1 : qp ≠ qo := fun e => by have := h.pl; rw [e, h.o] at this; exact o_row (zC this)
 have n2 : qp ≠ ro := fun e => by have := h.pl; rw [e, h.m] at this; cases this
 have n3 : qp ≠ qa := fun e => by have := h.pl; rw [e, h.a] at this; exact o_row (zC this)
 have n4 : qp ≠ qf := fun e => by have := h.pl; rw [e, h.f] at this; exact o_row (zC this)
 exact ⟨h.z.set (h.z.pos h.pl) _, set_new h.pl, by rw [zP]; exact h.lp, set_keep n1 h.o, set_keep n2 h.m, h.r2, set_keep n3 h.a, set_keep n4 h.f⟩
theorem MI.ord (h : MI G c qp P go qo O ro ga qa A gf qf F) (x : Int) (go' : AG) : MI (G.set qo .dead ++ [AG.o go' 1 ((O ++ [x]).map eI)]) c qp P go' G.length (O ++ [x]) ro ga qa A gf qf F := by
 have n1 : qo ≠ qp := fun e => by have := h.pl; rw [← e, h.o] at this; exact o_row (zC this)
 have n2 : qo ≠ ro := fun e => by have := h.m; rw [← e, h.o] at this; exact o_cells (zC this)
 refine ⟨(h.z.set (h.z.notO h.o) _).app _, app_keep (set_keep n1 h.pl), h.lp, ?_, app_keep (set_keep n2 h.m), h.r2, app_keep (set_dead h.o h.a (by decide)), app_keep (set_dead h.o h.f (by decide))⟩
 rw [show G.length = (G.set qo AObj.dead).length by simp]
 exact mid_get _ _ _
theorem MI.arc (h : MI G c qp P go qo O ro ga qa A gf qf F) (x : S52) (ga' : AG) : MI ((G.set qa .dead ++ [AG.o ga' 5 ((A ++ [x]).map e52)]).set ro (.cells [dI 0, AG.d ga' G.length ((A ++ [x]).map e52), AG.d gf qf (F.map e54)])) c qp P go qo O ro ga' G.length (A ++ [x]) gf qf F := by
 have n1 : qa ≠ qp := fun e => by have := h.pl; rw [← e, h.a] at this; exact o_row (zC this)
 have n2 : qa ≠ ro := fun e => by have := h.m; rw [← e, h.a] at this; exact o_cells (zC this)
 have r1 : ro ≠ qp := fun e => by have := h.pl; rw [← e, h.m] at this; cases this
 have r3 : ro ≠ qo := fun e => by have := h.m; rw [e, h.o] at this; exact o_cells (zC this)
 have r4 : ro ≠ qf := fun e => by have := h.m; rw [e, h.f] at this; exact o_cells (zC this)
 have hl := yE h.m
 refine ⟨((h.z.set (h.z.notO h.a) _).app _).set h.r2 _, set_keep r1 (app_keep (set_keep n1 h.pl)), h.lp, set_keep r3 (app_keep (set_dead h.a h.o (by decide))), set_new (app_keep (set_keep n2 h.m)), h.r2, set_keep om ?_, set_keep r4 (app_keep (set_dead h.a h.f (by decide)))⟩
 rw [show G.length = (G.set qa AObj.dead).length by simp]
 exact mid_get _ _ _
theorem MI.fin (h : MI G c qp P go qo O ro ga qa A gf qf F) (x : S54) (gf' : AG) : MI ((G.set qf .dead ++ [AG.o gf' 2 ((F ++ [x]).map e54)]).set ro (.cells [dI 0, AG.d ga qa (A.map e52), AG.d gf' G.length ((F ++ [x]).map e54)])) c qp P go qo O ro ga qa A gf' G.length (F ++ [x]) := by
 have n1 : qf ≠ qp := fun e => by have := h.pl; rw [← e, h.f] at this; exact o_row (zC this)
 have n2 : qf ≠ ro := fun e => by have := h.m; rw [← e, h.f] at this; exact o_cells (zC this)
 have r1 : ro ≠ qp := fun e => by have := h.pl; rw [← e, h.m] at this; cases this
 have r3 : ro ≠ qo := fun e => by have := h.m; rw [e, h.o] at this; exact o_cells (zC this)
 have r4 : ro ≠ qa := fun e => by have := h.m; rw [e, h.a] at this; exact o_cells (zC this)
 have hl := yE h.m
 refine ⟨((h.z.set (h.z.notO h.f) _).app _).set h.r2 _, set_keep r1 (app_keep (set_keep n1 h.pl)), h.lp, set_keep r3 (app_keep (set_dead h.f h.o (by decide))), set_new (app_keep (set_keep n2 h.m)), h.r2, set_keep r4 (app_keep (set_dead h.f h.a (by decide))), set_keep om ?_⟩
 rw [show G.length = (G.set qf AObj.dead).length by simp]
 exact mid_get _ _ _
end
theorem app_ok {α : Type} {b : Nat} {xs : List α} {x : α} (hb : b ≤ 1000) (hl : xs.length < 200000000) : app b xs [x] = some (xs ++ [x]) := by
 have h := Nat.mul_le_mul (show xs.length + 1 ≤ 200000000 by omega) hb
 unfold app
 rw [if_pos ⟨Nat.le_trans h om, by unfold maxLen; simp; omega⟩]
noncomputable abbrev RG47 : Code := cR (cR RF47)
noncomputable abbrev LM47 : Code := cL (cR (cR (cR RG47)))
noncomputable abbrev BM47 : Code := cL (cL (cR (cL (cL (cR LM47)))))
noncomputable abbrev LA2 : Code := cL (cR BM47)
noncomputable abbrev BA2 : Code := cL (cL (cR (cR (cL (cL (cR LA2))))))
abbrev lX (labels : List Int) (rows : List (List Int)) (fin : List Bool) (cls S : List Int) (count : Int) (c qp : Nat) (go : AG) (qo : Nat) (O : List Int) (ro : Nat) (i : Int) : List (Nat × D) := (23, dP eI S) :: (25, sI qp c) :: (27, AG.d go qo (O.map eI)) :: (28, .ptr ro 0) :: (29, dI i) :: lW labels rows fin cls count
abbrev KX : List Nat := 23 :: 25 :: 27 :: 28 :: 29 :: KW
theorem arc47 (n : Nat) {labels : List Int} {rows : List (List Int)} {fin : List Bool} {cls S : List Int} {count s : Int} {c qp : Nat} {go : AG} {qo : Nat} {O P : List Int} {ro i : Nat} {ga : AG} {qa : Nat} {A : List S52} {gf : AG} {qf : Nat} {F : List S54} {row : List Int} {to : Int} {goal : List Int × List Int × List S52}
  (hto : row[k]? = some to) (hg : arcsF cls labels i (to :: row.drop (k + 1)) k O P A = some goal) (hk : k < 100000000) {G : List AObj} (hI : MI G c qp P go qo O ro ga qa A gf qf F) {Q : Post}
  (hQ : ∀ e go qo O P ga qa A G σ, (e = .normal ∨ e = .exit 17) → arcsF cls labels i (row.drop (k + 1)) (k + 1) O P A = some goal → MI G c qp P go qo O ro ga qa A gf qf F →
   Abs.forget (30 :: 210 :: 211 :: 212 :: KX) σ = Sm 284 ((30, dI s) :: (210, dP eI row) :: (211, dI row.length) :: (212, dI k) :: lX labels rows fin cls S count c qp go qo O ro i) G → Q e σ) :
  HT BA2 (Sm 284 ((30, dI s) :: (210, dP eI row) :: (211, dI row.length) :: (212, dI k) :: lX labels rows fin cls S count c qp go qo O ro i) G) Q := by
 have hxn := hxM n
 have ix : idx row (k : Int) = some to := by rw [idx_get]; exact hto
 have hg : (if to < 0 then arcsF cls labels i (row.drop (k + 1)) (k + 1) O P A else match idx cls to with
  | none => none
  | some c => match idx P c, labels[k]? with
   | some p, some x => if O.length < 100000000 ∧ A.length < 100000000 then
     (if p < 0 then arcsF cls labels i (row.drop (k + 1)) (k + 1) (O ++ [c]) (P.set c.toNat O.length) (A ++ [⟨i, O.length, x, x, 0⟩])
      else arcsF cls labels i (row.drop (k + 1)) (k + 1) O P (A ++ [⟨i, p, x, x, 0⟩])) else none
   | _, _ => none) = some goal := hg
 refine Hs <| Hr hxn <| Og 1 <| Oo (fun h0 e0 => xr h0 62 3 1 eI row k to ix) <| Og 3 <| On <| Hs <| Hs <| Hr hxn <| Og 2 <| On <| Hd (to < 0) (fun hc => ?_) (fun hc => ?_)
 ·rw [if_pos hc] at hg
  refine Ht.exit (id := 17) kr ?_
  show Q (AExit.exit 17) _
  exact hQ (.exit 17) _ _ _ _ _ _ _ _ _ (.inr rfl) hg hI kr
 rw [if_neg hc] at hg
 obtain ⟨cl, hcl⟩ : ∃ y, idx cls to = some y := by
  cases h : idx cls to with
  | none => rw [h] at hg; cases hg
  | some y => exact ⟨y, rfl⟩
 rw [hcl] at hg
 dsimp only at hg
 obtain ⟨p, hp⟩ : ∃ y, idx P cl = some y := by
  cases h : idx P cl with
  | none => rw [h] at hg; cases hg
  | some y => exact ⟨y, rfl⟩
 obtain ⟨x, hx⟩ : ∃ y, labels[k]? = some y := by
  cases h : labels[k]? with
  | none => rw [hp, h] at hg; cases hg
  | some y => exact ⟨y, rfl⟩
 rw [hp, hx] at hg
 dsimp only at hg
 split at hg
 case isFalse => cases hg
 rename_i hb
 obtain ⟨hO, hA⟩ := hb
 obtain ⟨p0, hpg, hpl⟩ := idx_some hp
 obtain ⟨j, hj⟩ : ∃ j : Nat, cl = (j : Int) := ⟨cl.toNat, om⟩
 have e1 : cl.toNat = j := by omega
 rw [e1] at hpg hpl hg
 have ixl : idx labels (k : Int) = some x := by rw [idx_get]; exact hx
 refine Hk <| seqH.n <| Hs <| Hr hxn <| Og 2 <| Oo (fun h0 e0 => xr h0 62 3 1 eI cls to cl hcl) <| Og 2 <| On <| Hf (30 :: 31 :: 33 :: 210 :: 211 :: 212 :: KX) (Sm 284 ((30, dI s) :: (31, dI k) :: (33, dI cl) :: (210, dP eI row) :: (211, dI row.length) :: (212, dI k) :: lX labels rows fin cls S count c qp go qo O ro i) G) ?_
 have last : ∀ (go : AG) (qo : Nat) (O P : List Int) (p' : Int) (G : List AObj) σ, MI G c qp P go qo O ro ga qa A gf qf F → P[j]? = some p' → arcsF cls labels i (row.drop (k + 1)) (k + 1) O P (A ++ [⟨i, p', x, x, 0⟩]) = some goal →
   Abs.forget (30 :: 31 :: 33 :: 210 :: 211 :: 212 :: KX) σ = Sm 284 ((30, dI s) :: (31, dI k) :: (33, dI cl) :: (210, dP eI row) :: (211, dI row.length) :: (212, dI k) :: lX labels rows fin cls S count c qp go qo O ro i) G → HT (cR (cR (cR (cR BA2)))) σ Q := by
  intro go qo O P p' G σ hI hpg hg hσ
  refine Hg (30 :: 31 :: 33 :: 210 :: 211 :: 212 :: KX) hσ ?_
  have happ : app ti53.bytes A [(⟨i, p', x, x, 0⟩ : S52)] = some (A ++ [⟨i, p', x, x, 0⟩]) := app_ok (by decide) om
  have hro : (G.set qa .dead ++ [AG.o (ga.app [e52 ⟨i, p', x, x, 0⟩]) 5 ((A ++ [(⟨i, p', x, x, 0⟩ : S52)]).map e52)])[ro]? = some (.cells [dI 0, AG.d ga qa (A.map e52), AG.d gf qf (F.map e54)]) :=
   app_keep (set_keep (fun e => by have := hI.m; rw [← e, hI.a] at this; exact o_cells (zC this)) hI.m)
  refine Hr hxn <| Og 1 <| Oo (fun h0 e0 => lq ti25 ro 1 [dI 0, AG.d ga qa (A.map e52), AG.d gf qf (F.map e54)] (AG.d ga qa (A.map e52)) (Hw e0 hI.m)) <| Og 3 <| Oo (fun h0 e0 => xr h0 62 3 1 eI labels k x ixl) <| Og 3 <| Oo (fun h0 e0 => xr h0 62 3 1 eI labels k x ixl) <| Og 3 <| Oo (fun h0 e0 => ixI (N := c) (i := j) (Hw e0 hI.pl) hj (by rw [← hI.lp]; exact yE hpg)) <| Oo (fun h0 e0 => ldI (Hw e0 hI.pl) hpg) <| Og 2 <| Oo (fun h0 e0 => app_g (T := TM) h0 25 53 qa 5 ti53 ga .nonfull e52 A [⟨i, p', x, x, 0⟩] (A ++ [⟨i, p', x, x, 0⟩]) happ kr kr kr kr (fun _ => rfl) (Hw e0 hI.a)) <| Og 1 <| Oo (fun h0 e0 => st_l (i := ti25) (r := ro) (off := 1) (cs := [dI 0, AG.d ga qa (A.map e52), AG.d gf qf (F.map e54)]) (cs' := [dI 0, AG.d (ga.app [e52 ⟨i, p', x, x, 0⟩]) G.length ((A ++ [(⟨i, p', x, x, 0⟩ : S52)]).map e52), AG.d gf qf (F.map e54)]) (x := AG.d (ga.app [e52 ⟨i, p', x, x, 0⟩]) G.length ((A ++ [(⟨i, p', x, x, 0⟩ : S52)]).map e52)) (Hw (g := G.set qa .dead ++ [AG.o (ga.app [e52 ⟨i, p', x, x, 0⟩]) 5 ((A ++ [(⟨i, p', x, x, 0⟩ : S52)]).map e52)]) e0 hro) rfl (AG.one _ _ _) rfl) <| Od ?_
  exact hQ .normal go qo O P (ga.app [e52 ⟨i, p', x, x, 0⟩]) G.length (A ++ [⟨i, p', x, x, 0⟩]) _ _ (.inl rfl) hg (hI.arc ⟨i, p', x, x, 0⟩ _) kr
 refine Hs <| Hs <| Hr hxn <| Og 2 <| Oo (fun h0 e0 => ixI (N := c) (i := j) (Hw e0 hI.pl) hj (by rw [← hI.lp]; exact hpl)) <| Oo (fun h0 e0 => ldI (Hw e0 hI.pl) hpg) <| Og 1 <| On <| Hd (p < 0) (fun hc => ?_) (fun hc => ?_)
 ·rw [if_pos hc] at hg
  have happ : app ti3.bytes O [cl] = some (O ++ [cl]) := app_ok (by decide) om
  have hI2 := hI.place j (O.length : Int)
  refine Hs <| Hr hxn <| Og 3 <| Oo (fun h0 e0 => lg h0 62 3 qo go eI O) <| Oo (fun h0 e0 => ixI (N := c) (i := j) (Hw e0 hI.pl) hj (by rw [← hI.lp]; exact hpl)) <| Oo (fun h0 e0 => stI (i := j) (x := O.length) (Hw e0 hI.pl) hpl) <| On <| Hf (30 :: 31 :: 33 :: 210 :: 211 :: 212 :: KX) (Sm 284 ((30, dI s) :: (31, dI k) :: (33, dI cl) :: (210, dP eI row) :: (211, dI row.length) :: (212, dI k) :: lX labels rows fin cls S count c qp go qo O ro i) (G.set qp (oI (P.set j (O.length : Int))))) ?_
  generalize G.set qp (oI (P.set j (O.length : Int))) = M at hI2 ⊢
  refine Hr hxn <| Og 3 <| Oo (fun h0 e0 => app_g (T := TM) h0 62 3 qo 1 ti3 go .nonfull eI O [cl] (O ++ [cl]) happ kr kr kr kr (fun _ => rfl) (Hw e0 hI2.o)) <| Og 1 <| On ?_
  exact last (go.app [eI cl]) M.length (O ++ [cl]) (P.set j O.length) O.length _ _ (hI2.ord cl _) (zQ hpl) hg kr
 ·rw [if_neg hc] at hg
  refine Hk <| seqH.n ?_
  exact last go qo O P p G _ hI hpg hg kr
end Go.Abs.Tg
