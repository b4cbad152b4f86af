import Derived.Test.YtbeegandhppniaaAbsW
namespace Go.Abs
set_option linter.unusedVariables false
set_option linter.unusedSimpArgs false
set_option linter.unnecessarySimpa false
def rowF (g : SFlag) (q : Nat) (xs : List V) : D := match xs with
 | [] => .v (.sl g [])
 | _ :: _ => .osl q 0 xs.length false
def rowO (k : Nat) (xs : List V) : AObj := match xs with
 | [] => .dead
 | _ :: _ => .row k xs
theorem set_same {h : List AObj} {q : Nat} {o : AObj} (hq : h[q]? = some o) : h.set q o = h := by
 refine List.ext_getElem? fun j => ?_
 rw [List.getElem?_set]
 split
 ·rename_i e; subst e
  split
  ·exact hq.symm
  ·rename_i hlt; rw [List.getElem?_eq_none (by omega)] at hq; cases hq
 ·rfl
theorem row_app {α : Type} {T : Nat → Option TI} {g : SFlag} (h : List AObj) (t e q : Nat) (i : TI) (fl : SFlag) (f : α → V) (xs ys zs : List α) (ha : app i.bytes xs ys = some zs) (hT : (T t).map (·.kind) = some (.slice e)) (hi : T e = some i) (hk : (i.size == 0) = false) (hz : (i.zero.cells.length == i.size) = true)
  (hf : ∀ x, (f x).cells.length = i.size) (hq : h[q]? = some (rowO i.size (xs.map f))) (hg : g.isFull = true := by rfl) : appendD T true t h (rowF g q (xs.map f)) (.v (.sl fl (ys.map f))) = some (rowF g h.length (zs.map f), h.set q .dead ++ [rowO i.size (zs.map f)]) := by
 unfold app at ha
 split at ha
 ·rename_i hb
  cases ha
  obtain ⟨hb, hm⟩ := hb
  obtain ⟨ti, h1, h2⟩ := Option.map_eq_some_iff.1 hT
  have hk' : ¬ (i.size = 0 ∨ i.zero.cells.length ≠ i.size) := by
   rintro (h | h)
   ·simp [h] at hk
   ·exact h (by simpa using hz)
  have hel : elemsOf i.size h (D.unt (.v (.sl fl (ys.map f)))) = some (ys.map f) := by simp only [D.unt, elemsOf, headOk_map hf, if_true]
  simp only [appendD, h1, h2, hi, if_neg hk', hel, Bool.true_eq_false, if_false]
  cases xs with
  | nil =>
   simp only [List.map_nil, rowF, rowO] at hq ⊢
   cases ys with
   | nil => simp only [List.map_nil, List.append_nil, set_same hq]
   | cons y yr =>
    simp only [List.map_cons, List.nil_append, List.length_nil, List.length_cons, List.length_map] at hb hm ⊢
    rw [Nat.zero_add] at hb hm
    simp [hg, headOk, set_same hq, hb, hm]
  | cons x xr =>
   simp only [List.map_cons, rowF, rowO] at hq ⊢
   simp only [hq]
   rw [if_pos ⟨trivial, by simp, by simpa using hb, by simpa using hm⟩]
   simp [Nat.add_right_comm, List.take_of_length_le]
 ·cases ha
theorem row_n {α : Type} {T : Nat → Option TI} {g : SFlag} (h : List AObj) (t e : Nat) (i : TI) (fl : SFlag) (f : α → V) (ys zs : List α) (ha : app i.bytes [] ys = some zs) (hT : (T t).map (·.kind) = some (.slice e)) (hi : T e = some i) (hk : (i.size == 0) = false) (hz : (i.zero.cells.length == i.size) = true)
  (hf : ∀ x, (f x).cells.length = i.size) (hg : g.isFull = true := by rfl) : appendD T true t h (.v (.sl g [])) (.v (.sl fl (ys.map f))) = some (rowF g h.length (zs.map f), h ++ [rowO i.size (zs.map f)]) := by
 unfold app at ha
 split at ha
 ·rename_i hb
  cases ha
  obtain ⟨ti, h1, h2⟩ := Option.map_eq_some_iff.1 hT
  have hk' : ¬ (i.size = 0 ∨ i.zero.cells.length ≠ i.size) := by
   rintro (h | h)
   ·simp [h] at hk
   ·exact h (by simpa using hz)
  have hel : elemsOf i.size h (D.unt (.v (.sl fl (ys.map f)))) = some (ys.map f) := by simp only [D.unt, elemsOf, headOk_map hf, if_true]
  simp only [appendD, h1, h2, hi, if_neg hk', hel, List.nil_append]
  cases ys with
  | nil => simp [rowF, rowO]
  | cons y yr =>
   simp only [List.map_cons, List.length_nil, List.length_cons, List.length_map, rowF, rowO] at hb ⊢
   rw [Nat.zero_add] at hb
   simp [hg, headOk, hb]
 ·cases ha
theorem callD_own {P : Program} {E E' : Env} {n f : Nat} {ds : List D} {h : List AObj} {F : List D → List AObj → Option (D × List AObj)} {r : Option (D × List AObj)} (hp : E'.pureF f = false) (hf : (P.funcs[f]?).isSome = true) (hF : E.oraD f = some F) (hr : F ds h = r) (hn : 1 ≤ n) (ho : E'.ownR f = none := by kernel_rfl) (hl : E'.lend f = none := by kernel_rfl) : callD E' (run P E n) f ds h = r := by
 obtain ⟨n, rfl⟩ : ∃ q, n = q + 1 := ⟨n - 1, by omega⟩
 obtain ⟨fn, hfn⟩ := Option.isSome_iff_exists.1 hf
 simp only [callD, hp, Bool.false_eq_true, if_false, ho, hl, run, hfn, hF, hr]
theorem row_frz (h : List AObj) (n q k : Nat) {g : SFlag} (xs : List V) (hq : h[q]? = some (rowO k xs)) : Abs.frz h (n + 1) (rowF g q xs) = some (.sl .plain xs) := by
 cases xs with
 | nil => rfl
 | cons x r =>
  have h2 : rowO k (x :: r) = .row k (x :: r) := rfl
  rw [h2] at hq
  have h1 : rowF g q (x :: r) = .osl q 0 (x :: r).length false := rfl
  rw [h1]
  simp only [Abs.frz, hq]
  rw [if_pos (by omega)]
  simp
theorem row_own (h : List AObj) (q k : Nat) {g : SFlag} (xs : List V) (hq : h[q]? = some (rowO k xs)) (hf : xs.all V.flat = true) : ownFlat h (rowF g q xs) = true := by
 cases xs with
 | nil => rfl
 | cons x r =>
  have h2 : rowO k (x :: r) = .row k (x :: r) := rfl
  rw [h2] at hq
  have h1 : rowF g q (x :: r) = .osl q 0 (x :: r).length false := rfl
  rw [h1]
  simp only [ownFlat, hq]
  simp only [List.take_length, hf, Nat.le_refl, decide_true, Bool.and_self]
theorem RetOkO.row {X : Cx} {rs : List ResultVar} {σ : St} {g : SFlag} (q k : Nat) (xs : List V) (h1 : resultsD X.E.T σ rs = some (rowF g q xs)) (hq : σ.heap[q]? = some (rowO k xs)) (hf : xs.all V.flat = true) : RetOkO X rs (.sl .plain xs) σ :=
 ⟨_, h1, row_frz _ 5 q k xs hq, row_own _ q k xs hq hf⟩
theorem idx_some {α : Type} {l : List α} {i : Int} {x : α} (h : idx l i = some x) : 0 ≤ i ∧ l[i.toNat]? = some x ∧ i.toNat < l.length := by
 unfold idx at h
 split at h
 ·rename_i h0
  refine ⟨h0, h, ?_⟩
  rcases Nat.lt_or_ge i.toNat l.length with g | g
  ·exact g
  ·rw [List.getElem?_eq_none g] at h; cases h
 ·cases h
theorem rowO_get {α : Type} {f : α → V} {k j : Nat} {xs : List α} (hj : j < xs.length) : rowO k (xs.map f) = .row k (xs.map f) := by
 cases xs with
 | nil => simp at hj
 | cons _ _ => rfl
theorem ix_w {α : Type} {T : Nat → Option TI} {g : SFlag} (h : List AObj) (t e k q : Nat) (f : α → V) (xs : List α) (i : Int) (x : α) (hx : idx xs i = some x) (hT : (T t).map (·.kind) = some (.slice e)) (hk : sizeT T e = some k) (hq : h[q]? = some (rowO k (xs.map f))) :
  (indexAddrH T h t (D.unt (rowF g q (xs.map f))) (.v (.int .i64 i))).map (·, h) = some (.eptr q i.toNat 0, h) := by
 obtain ⟨ti, h1, h2⟩ := Option.map_eq_some_iff.1 hT
 obtain ⟨h0, h3, h4⟩ := idx_some hx
 rw [rowO_get (f := f) h4] at hq
 cases xs with
 | nil => simp at h4
 | cons y r =>
  have hr : rowF g q ((y :: r).map f) = .osl q 0 ((y :: r).map f).length false := rfl
  have hn : natOf (.v (.int .i64 i)) = some i.toNat := by simp [natOf, h0]
  rw [hr]
  simp only [D.unt, indexAddrH, h1, h2, hn, List.length_map, if_pos h4, hk, hq, if_true, Option.map_some, Nat.zero_add]
theorem ld_w {α : Type} {i : TI} (h : List AObj) (k q off : Nat) (f : α → V) (xs : List α) (j : Int) (x : α) (y : V) (hx : idx xs j = some x) (hq : h[q]? = some (rowO k (xs.map f))) (hy : (cut (f x).cells off i.size).bind (mkOfV i.kind.isAgg) = some y) :
  (loadD i h (.eptr q j.toNat off)).map (·, h) = some (.v y, h) := by
 obtain ⟨h0, h3, h4⟩ := idx_some hx
 rw [rowO_get (f := f) h4] at hq
 have hg : (xs.map f)[j.toNat]? = some (f x) := by rw [List.getElem?_map, h3]; rfl
 simp only [loadD, hq, hg, hy, Option.map_some]
def upd {α : Type} (l : List α) (i : Int) (x : α) : Option (List α) := if 0 ≤ i ∧ i.toNat < l.length then some (l.set i.toNat x) else none
theorem upd_some {α : Type} {l zs : List α} {i : Int} {x : α} (h : upd l i x = some zs) : 0 ≤ i ∧ i.toNat < l.length ∧ zs = l.set i.toNat x := by
 unfold upd at h
 split at h
 ·rename_i hc; cases h; exact ⟨hc.1, hc.2, rfl⟩
 ·cases h
theorem upd_row {α : Type} {g : SFlag} {f : α → V} {q : Nat} {l zs : List α} {i : Int} {x : α} (h : upd l i x = some zs) : rowF g q (l.map f) = rowF g q (zs.map f) := by
 obtain ⟨_, h2, rfl⟩ := upd_some h
 cases l with
 | nil => simp at h2
 | cons a r =>
  cases hs : (a :: r).set i.toNat x with
  | nil => have := congrArg List.length hs; simp at this
  | cons b s =>
   have hl := congrArg List.length hs
   simp only [List.length_set, List.length_cons] at hl
   simp only [List.map_cons, rowF, List.length_cons, List.length_map, hl]
theorem st_w {α : Type} {i : TI} (h : List AObj) (k q off : Nat) (f : α → V) (xs zs : List α) (j : Int) (x x' : α) (y : V) (hx : idx xs j = some x) (hz : upd xs j x' = some zs) (hq : h[q]? = some (rowO k (xs.map f)))
  (hy : ((D.v y).solid && (D.v y).cells.length == i.size) = true) (hs : storeV (f x) y off = some (f x')) (hk : ((f x').cells.length == k && (f x').solid) = true) :
  (storeD i h (.eptr q j.toNat off) (.v y)).map (U, ·) = some (U, h.set q (rowO k (zs.map f))) := by
 obtain ⟨h0, h3, h4⟩ := idx_some hx
 obtain ⟨_, _, rfl⟩ := upd_some hz
 rw [rowO_get (f := f) h4] at hq
 have hg : (xs.map f)[j.toNat]? = some (f x) := by rw [List.getElem?_map, h3]; rfl
 rw [rowO_get (j := j.toNat) (f := f) (xs := xs.set j.toNat x') (by rw [List.length_set]; exact h4)]
 simp only [storeD, hy, if_true, hq, hg, hs, hk, Option.map_some, List.map_set]
theorem rowF_one (g : SFlag) (q : Nat) (xs : List V) : (rowF g q xs).solid = true ∧ (rowF g q xs).cells = [rowF g q xs] := by cases xs <;> exact ⟨rfl, rfl⟩
theorem AG.one (g : AG) (q : Nat) (xs : List V) : (AG.d g q xs).solid = true ∧ (AG.d g q xs).cells = [AG.d g q xs] := by cases g <;> exact ⟨rfl, rfl⟩
theorem st_l {i : TI} {h : List AObj} {r off : Nat} {cs cs' : List D} {x : D} (hr : h[r]? = some (.cells cs)) (h1 : (i.size == 1) = true) (hx : x.solid = true ∧ x.cells = [x]) (hc : splice cs off [x] = some cs') : (storeD i h (.ptr r off) x).map (U, ·) = some (U, h.set r (.cells cs')) := by
 have h1 : i.size = 1 := by simpa using h1
 simp only [storeD, hx.1, hx.2, h1, List.length_singleton, beq_self_eq_true, Bool.and_self, if_true, hr, hc, Option.map_some]
def D.na : D → Bool
 | .v (.agg _) | .v (.tuple _) => false
 | _ => true
theorem rowF_na (g : SFlag) (q : Nat) (xs : List V) : (rowF g q xs).na = true := by cases xs <;> rfl
theorem AG.na (g : AG) (q : Nat) (xs : List V) : (AG.d g q xs).na = true := by cases g <;> rfl
inductive FL (h : List AObj) (n : Nat) : List D → List V → Prop where
 | nil : FL h n [] []
 | cons (d : D) (x : V) {ds : List D} {xs : List V} (e : Abs.frz h n d = some x) (hn : d.na = true) (hr : FL h n ds xs) : FL h n (d :: ds) (x :: xs)
theorem FL.spec {h : List AObj} {n : Nat} {ds : List D} {xs : List V} (ha : FL h n ds xs) : allM (Abs.frz h n) ds = some xs ∧ ds.all D.na = true := by
 induction ha with
 | nil => exact ⟨rfl, rfl⟩
 | cons d x e hn hr ih => exact ⟨by simp only [allM, e, ih.1], by rw [List.all_cons, hn, ih.2]; rfl⟩
theorem pures_frz {h : List AObj} {n : Nat} : ∀ {ds : List D} {vs xs : List V}, pures ds = some vs → allM (Abs.frz h (n + 1)) ds = some xs → vs.map plainT = xs
 | [], vs, xs, h1, h2 => by
  cases h1; cases h2; rfl
 | d :: r, vs, xs, h1, h2 => by
  simp only [pures] at h1
  split at h1
  ·rename_i x ys hx hys
   cases h1
   cases d <;> simp only [D.pure?] at hx <;> try (cases hx; done)
   cases hx
   simp only [allM, Abs.frz] at h2
   split at h2
   ·rename_i a b ha hb
    cases h2
    cases ha
    rw [List.map_cons, pures_frz hys hb]
   ·cases h2
  ·cases h1
theorem mkAgg_frz {h : List AObj} {n : Nat} {ds : List D} {xs : List V} (ha : FL h (n + 1) ds xs) : Abs.frz h (n + 2) (mkAgg ds) = some (.agg xs) := by
 obtain ⟨h1, hs⟩ := ha.spec
 unfold mkAgg
 split
 ·rename_i vs hvs
  have h2 := pures_frz hvs h1
  simp only [Abs.frz, plainT, plainV]
  have h3 : ∀ (l : List V) (e : List D), pures e = some l → e.all D.na = true → l.map plainS = l.map plainT := by
   intro l
   induction l with
   | nil => intro e _ _; rfl
   | cons a r ih =>
    intro e he hs
    cases e with
    | nil => cases he
    | cons d e =>
     simp only [pures] at he
     split at he
     ·rename_i x ys hx hys
      cases he
      cases d <;> simp only [D.pure?] at hx <;> try (cases hx; done)
      cases hx
      rw [List.all_cons, Bool.and_eq_true] at hs
      rw [List.map_cons, List.map_cons, ih e hys hs.2]
      cases a <;> first | rfl | (have := hs.1; cases this)
     ·cases he
  rw [h3 vs ds hvs hs, h2]
 ·simp only [Abs.frz, h1, Option.map_some]
theorem pures_mapR : ∀ {ds : List D} {vs : List V}, pures ds = some vs → ds = vs.map .v
 | [], vs, h => by cases h; rfl
 | d :: r, vs, h => by
  simp only [pures] at h
  split at h
  ·rename_i x ys hx hys
   cases h
   cases d <;> simp only [D.pure?] at hx <;> try (cases hx; done)
   cases hx
   rw [List.map_cons, ← pures_mapR hys]
  ·cases h
theorem mkAgg_cells (ds : List D) : (mkAgg ds).cells = ds := by
 unfold mkAgg
 split
 ·rename_i vs h
  rw [pures_mapR h]; rfl
 ·rfl
theorem mkAgg_solid {ds : List D} (h : ds.all D.scalar = true) : (mkAgg ds).solid = true := by
 unfold mkAgg
 split
 ·rename_i vs hv
  rw [pures_mapR hv, List.all_map] at h
  exact h
 ·exact h
theorem all_sc {d : D} {ds : List D} (h1 : d.scalar = true) (h2 : ds.all D.scalar = true) : (d :: ds).all D.scalar = true := by rw [List.all_cons, h1, h2]; rfl
theorem rowF_sc (g : SFlag) (q : Nat) (xs : List V) : (rowF g q xs).scalar = true := by cases xs <;> rfl
theorem AG.sc (g : AG) (q : Nat) (xs : List V) : (AG.d g q xs).scalar = true := by cases g <;> rfl
theorem st_s {i : TI} {h : List AObj} {r off : Nat} {cs cs' ds : List D} (hr : h[r]? = some (.cells cs)) (h1 : (ds.length == i.size) = true) (hs : ds.all D.scalar = true) (hc : splice cs off ds = some cs') : (storeD i h (.ptr r off) (mkAgg ds)).map (U, ·) = some (U, h.set r (.cells cs')) := by
 simp only [storeD, mkAgg_solid hs, mkAgg_cells, h1, Bool.and_self, if_true, hr, hc, Option.map_some]
end Go.Abs
