import Derived.Test.YtkmmaelmdioleaaGreatDoorAbsW
namespace Go.Abs
set_option linter.unusedVariables false
set_option linter.unusedSimpArgs false
set_option linter.unnecessarySimpa false
def rowF (g : SFlag) (q : Nat) (xs : List V) : D := match xs with
 | [] => .v (.sl g [])
 | _ :: _ => .osl q 0 xs.length false
def rowO (k : Nat) (xs : List V) : AObj := match xs with
 | [] => .dead
 | _ :: _ => .row k xs
theorem row_frz (h : List AObj) (n q k : Nat) {g : SFlag} (xs : List V) (hq : h[q]? = some (rowO k xs)) : Abs.frz h (n + 1) (rowF g q xs) = some (.sl .plain xs) := by
 cases xs with
 | nil => rfl
 | cons x r =>
  have h2 : rowO k (x :: r) = .row k (x :: r) := rfl
  rw [h2] at hq
  have h1 : rowF g q (x :: r) = .osl q 0 (x :: r).length false := rfl
  rw [h1]
  simp only [Abs.frz, hq]
  rw [if_pos (by omega)]
  simp
theorem row_own (h : List AObj) (q k : Nat) {g : SFlag} (xs : List V) (hq : h[q]? = some (rowO k xs)) (hf : xs.all V.flat = true) : ownFlat h (rowF g q xs) = true := by
 cases xs with
 | nil => rfl
 | cons x r =>
  have h2 : rowO k (x :: r) = .row k (x :: r) := rfl
  rw [h2] at hq
  have h1 : rowF g q (x :: r) = .osl q 0 (x :: r).length false := rfl
  rw [h1]
  simp only [ownFlat, hq]
  simp only [List.take_length, hf, Nat.le_refl, decide_true, Bool.and_self]
theorem RetOkO.row {X : Cx} {rs : List ResultVar} {σ : St} {g : SFlag} (q k : Nat) (xs : List V) (h1 : resultsD X.E.T σ rs = some (rowF g q xs)) (hq : σ.heap[q]? = some (rowO k xs)) (hf : xs.all V.flat = true) : RetOkO X rs (.sl .plain xs) σ :=
 ⟨_, h1, row_frz _ 5 q k xs hq, row_own _ q k xs hq hf⟩
theorem appF_one (g : SFlag) (q : Nat) (xs : List V) : (appF g q xs).solid = true ∧ (appF g q xs).cells = [appF g q xs] := by cases xs <;> exact ⟨rfl, rfl⟩
theorem AG.one (g : AG) (q : Nat) (xs : List V) : (AG.d g q xs).solid = true ∧ (AG.d g q xs).cells = [AG.d g q xs] := by cases g <;> exact ⟨rfl, rfl⟩
theorem st_l {i : TI} {h : List AObj} {r off : Nat} {cs cs' : List D} {x : D} (hr : h[r]? = some (.cells cs)) (h1 : (i.size == 1) = true) (hx : x.solid = true ∧ x.cells = [x]) (hc : splice cs off [x] = some cs') : (storeD i h (.ptr r off) x).map (U, ·) = some (U, h.set r (.cells cs')) := by
 have h1 : i.size = 1 := by simpa using h1
 simp only [storeD, hx.1, hx.2, h1, List.length_singleton, beq_self_eq_true, Bool.and_self, if_true, hr, hc, Option.map_some]
def D.na : D → Bool
 | .v (.agg _) | .v (.tuple _) => false
 | _ => true
theorem appF_na (g : SFlag) (q : Nat) (xs : List V) : (appF g q xs).na = true := by cases xs <;> rfl
theorem AG.na (g : AG) (q : Nat) (xs : List V) : (AG.d g q xs).na = true := by cases g <;> rfl
inductive FL (h : List AObj) (n : Nat) : List D → List V → Prop where
 | nil : FL h n [] []
 | cons (d : D) (x : V) {ds : List D} {xs : List V} (e : Abs.frz h n d = some x) (hn : d.na = true) (hr : FL h n ds xs) : FL h n (d :: ds) (x :: xs)
theorem FL.spec {h : List AObj} {n : Nat} {ds : List D} {xs : List V} (ha : FL h n ds xs) : allM (Abs.frz h n) ds = some xs ∧ ds.all D.na = true := by
 induction ha with
 | nil => exact ⟨rfl, rfl⟩
 | cons d x e hn hr ih => exact ⟨by simp only [allM, e, ih.1], by rw [List.all_cons, hn, ih.2]; rfl⟩
theorem pures_frz {h : List AObj} {n : Nat} : ∀ {ds : List D} {vs xs : List V}, pures ds = some vs → allM (Abs.frz h (n + 1)) ds = some xs → vs.map plainT = xs
 | [], vs, xs, h1, h2 => by
  cases h1; cases h2; rfl
 | d :: r, vs, xs, h1, h2 => by
  simp only [pures] at h1
  split at h1
  ·rename_i x ys hx hys
   cases h1
   cases d <;> simp only [D.pure?] at hx <;> try (cases hx; done)
   cases hx
   simp only [allM, Abs.frz] at h2
   split at h2
   ·rename_i a b ha hb
    cases h2
    cases ha
    rw [List.map_cons, pures_frz hys hb]
   ·cases h2
  ·cases h1
theorem mkAgg_frz {h : List AObj} {n : Nat} {ds : List D} {xs : List V} (ha : FL h (n + 1) ds xs) : Abs.frz h (n + 2) (mkAgg ds) = some (.agg xs) := by
 obtain ⟨h1, hs⟩ := ha.spec
 unfold mkAgg
 split
 ·rename_i vs hvs
  have h2 := pures_frz hvs h1
  simp only [Abs.frz, plainT, plainV]
  have h3 : ∀ (l : List V) (e : List D), pures e = some l → e.all D.na = true → l.map plainS = l.map plainT := by
   intro l
   induction l with
   | nil => intro e _ _; rfl
   | cons a r ih =>
    intro e he hs
    cases e with
    | nil => cases he
    | cons d e =>
     simp only [pures] at he
     split at he
     ·rename_i x ys hx hys
      cases he
      cases d <;> simp only [D.pure?] at hx <;> try (cases hx; done)
      cases hx
      rw [List.all_cons, Bool.and_eq_true] at hs
      rw [List.map_cons, List.map_cons, ih e hys hs.2]
      cases a <;> first | rfl | (have := hs.1; cases this)
     ·cases he
  rw [h3 vs ds hvs hs, h2]
 ·simp only [Abs.frz, h1, Option.map_some]
theorem pures_mapR : ∀ {ds : List D} {vs : List V}, pures ds = some vs → ds = vs.map .v
 | [], vs, h => by cases h; rfl
 | d :: r, vs, h => by
  simp only [pures] at h
  split at h
  ·rename_i x ys hx hys
   cases h
   cases d <;> simp only [D.pure?] at hx <;> try (cases hx; done)
   cases hx
   rw [List.map_cons, ← pures_mapR hys]
  ·cases h
theorem mkAgg_cells (ds : List D) : (mkAgg ds).cells = ds := by
 unfold mkAgg
 split
 ·rename_i vs h
  rw [pures_mapR h]; rfl
 ·rfl
theorem mkAgg_solid {ds : List D} (h : ds.all D.scalar = true) : (mkAgg ds).solid = true := by
 unfold mkAgg
 split
 ·rename_i vs hv
  rw [pures_mapR hv, List.all_map] at h
  exact h
 ·exact h
theorem all_sc {d : D} {ds : List D} (h1 : d.scalar = true) (h2 : ds.all D.scalar = true) : (d :: ds).all D.scalar = true := by rw [List.all_cons, h1, h2]; rfl
theorem appF_sc (g : SFlag) (q : Nat) (xs : List V) : (appF g q xs).scalar = true := by cases xs <;> rfl
theorem AG.sc (g : AG) (q : Nat) (xs : List V) : (AG.d g q xs).scalar = true := by cases g <;> rfl
theorem st_s {i : TI} {h : List AObj} {r off : Nat} {cs cs' ds : List D} (hr : h[r]? = some (.cells cs)) (h1 : (ds.length == i.size) = true) (hs : ds.all D.scalar = true) (hc : splice cs off ds = some cs') : (storeD i h (.ptr r off) (mkAgg ds)).map (U, ·) = some (U, h.set r (.cells cs')) := by
 simp only [storeD, mkAgg_solid hs, mkAgg_cells, h1, Bool.and_self, if_true, hr, hc, Option.map_some]
end Go.Abs
