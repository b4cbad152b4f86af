import Derived.Test.YtgmbaemdedachaaAbsW
namespace Go.Abs
set_option linter.unusedVariables false
set_option linter.unusedSimpArgs false
set_option linter.unnecessarySimpa false
def rowF (g : SFlag) (q : Nat) (xs : List V) : D := match xs with
 | [] => .v (.sl g [])
 | _ :: _ => .osl q 0 xs.length false
variable {h : List AObj}
theorem set_same {q : Nat} {o : AObj} (hq : h[q]? = some o) : h.set q o = h := by
 refine List.ext_getElem? fun j => ?_
 rw [zR]
 split
 ·rename_i e; subst e
  split
  ·exact hq.symm
  ·rename_i hlt; rw [zS om] at hq; cases hq
 ·rfl
variable {i : Int} {α : Type} {l : List α} {x : α}
theorem idx_some (h : idx l i = some x) : 0 ≤ i ∧ l[i.toNat]? = some x ∧ i.toNat < l.length := by
 unfold idx at h
 split at h
 ·rename_i h0
  refine ⟨h0, h, ?_⟩
  rcases Nat.lt_or_ge i.toNat l.length with g | g
  ·exact g
  ·rw [zS g] at h; cases h
 ·cases h
def upd {α : Type} (l : List α) (i : Int) (x : α) : Option (List α) := if 0 ≤ i ∧ i.toNat < l.length then some (l.set i.toNat x) else none
theorem upd_some {zs : List α} (h : upd l i x = some zs) : 0 ≤ i ∧ i.toNat < l.length ∧ zs = l.set i.toNat x := by
 unfold upd at h
 split at h
 ·rename_i hc; cases h; exact ⟨hc.1, hc.2, rfl⟩
 ·cases h
theorem AG.one (g : AG) (q : Nat) (xs : List V) : (AG.d g q xs).solid = true ∧ (AG.d g q xs).cells = [AG.d g q xs] := by cases g <;> exact ⟨rfl, rfl⟩
variable {cs cs' : List D} {off r : Nat}
theorem st_l {i : TI} {x : D} (hr : h[r]? = some (.cells cs)) (h1 : (i.size == 1) = true) (hx : x.solid = true ∧ x.cells = [x]) (hc : splice cs off [x] = some cs') : (storeD i h (.ptr r off) x).map (U, ·) = some (U, h.set r (.cells cs')) := by
 have h1 : i.size = 1 := by simpa using h1
 simp only [storeD, hx.1, hx.2, h1, List.length_singleton, beq_self_eq_true, Bool.and_self, if_true, hr, hc, Option.map_some]
def D.na : D → Bool
 | .v (.agg _) | .v (.tuple _) => false
 | _ => true
theorem AG.na (g : AG) (q : Nat) (xs : List V) : (AG.d g q xs).na = true := by cases g <;> rfl
inductive FL (h : List AObj) (n : Nat) : List D → List V → Prop where
 | nil : FL h n [] []
 | cons (d : D) (x : V) {ds : List D} {xs : List V} (e : Abs.frz h n d = some x) (hn : d.na = true) (hr : FL h n ds xs) : FL h n (d :: ds) (x :: xs)
variable {ds : List D} {n : Nat} {xs : List V}
theorem FL.spec (ha : FL h n ds xs) : allM (Abs.frz h n) ds = some xs ∧ ds.all D.na = true := by
 induction ha with
 | nil => exact ⟨rfl, rfl⟩
 | cons d x e hn hr ih => exact ⟨by simp only [allM, e, ih.1], by rw [List.all_cons, hn, ih.2]; rfl⟩
theorem pures_frz {h : List AObj} {n : Nat} : ∀ {ds : List D} {vs xs : List V}, pures ds = some vs → allM (Abs.frz h (n + 1)) ds = some xs → vs.map plainT = xs
 | [], vs, xs, h1, h2 => by
  cases h1; cases h2; rfl
 | d :: r, vs, xs, h1, h2 => by
  simp only [pures] at h1
  split at h1
  ·rename_i x ys hx hys
   cases h1
   cases d <;> simp only [D.pure?] at hx <;> try (cases hx; done)
   cases hx
   simp only [allM, Abs.frz] at h2
   split at h2
   ·rename_i a b ha hb
    cases h2
    cases ha
    rw [List.map_cons, pures_frz hys hb]
   ·cases h2
  ·cases h1
theorem mkAgg_frz (ha : FL h (n + 1) ds xs) : Abs.frz h (n + 2) (mkAgg ds) = some (.agg xs) := by
 obtain ⟨h1, hs⟩ := ha.spec
 unfold mkAgg
 split
 ·rename_i vs hvs
  have h2 := pures_frz hvs h1
  simp only [Abs.frz, plainT, plainV]
  have h3 : ∀ (l : List V) (e : List D), pures e = some l → e.all D.na = true → l.map plainS = l.map plainT := by
   intro l
   induction l with
   | nil => intro e _ _; rfl
   | cons a r ih =>
    intro e he hs
    cases e with
    | nil => cases he
    | cons d e =>
     simp only [pures] at he
     split at he
     ·rename_i x ys hx hys
      cases he
      cases d <;> simp only [D.pure?] at hx <;> try (cases hx; done)
      cases hx
      rw [List.all_cons, Bool.and_eq_true] at hs
      rw [List.map_cons, List.map_cons, ih e hys hs.2]
      cases a <;> first | rfl | (have := hs.1; cases this)
     ·cases he
  rw [h3 vs ds hvs hs, h2]
 ·simp only [Abs.frz, h1, Option.map_some]
theorem pures_mapR : ∀ {ds : List D} {vs : List V}, pures ds = some vs → ds = vs.map .v
 | [], vs, h => by cases h; rfl
 | d :: r, vs, h => by
  simp only [pures] at h
  split at h
  ·rename_i x ys hx hys
   cases h
   cases d <;> simp only [D.pure?] at hx <;> try (cases hx; done)
   cases hx
   rw [List.map_cons, ← pures_mapR hys]
  ·cases h
theorem mkAgg_cells (ds : List D) : (mkAgg ds).cells = ds := by
 unfold mkAgg
 split
 ·rename_i vs h
  rw [pures_mapR h]; rfl
 ·rfl
theorem mkAgg_solid (h : ds.all D.scalar = true) : (mkAgg ds).solid = true := by
 unfold mkAgg
 split
 ·rename_i vs hv
  rw [pures_mapR hv, List.all_map] at h
  exact h
 ·exact h
theorem all_sc {d : D} (h1 : d.scalar = true) (h2 : ds.all D.scalar = true) : (d :: ds).all D.scalar = true := by rw [List.all_cons, h1, h2]; rfl
theorem AG.sc (g : AG) (q : Nat) (xs : List V) : (AG.d g q xs).scalar = true := by cases g <;> rfl
theorem st_s {i : TI} (hr : h[r]? = some (.cells cs)) (h1 : (ds.length == i.size) = true) (hs : ds.all D.scalar = true) (hc : splice cs off ds = some cs') : (storeD i h (.ptr r off) (mkAgg ds)).map (U, ·) = some (U, h.set r (.cells cs')) := by
 simp only [storeD, mkAgg_solid hs, mkAgg_cells, h1, Bool.and_self, if_true, hr, hc, Option.map_some]
theorem mkAgg_nt (ds : List D) : ∀ ws, mkAgg ds ≠ .v (.tuple ws) := by
 intro ws h
 unfold mkAgg at h
 split at h <;> cases h
def pilD (q : Nat) (xs : List V) : D := .osl q 0 xs.length false
variable {α : Type}
theorem pil_len {T : Nat → Option TI} (h : List AObj) (t e q : Nat) (f : α → V) (xs : List α) (hT : (T t).map (·.kind) = some (.slice e)) : (lenD T t (D.unt (pilD q (xs.map f)))).map (·, h) = some (.v (.int .i64 (xs.length : Int)), h) := by
 obtain ⟨ti, h1, h2⟩ := zB.1 hT
 simp [pilD, D.unt, lenD, h1, h2]
theorem pil_ix {T : Nat → Option TI} (h : List AObj) (t e k q : Nat) (f : α → V) (xs : List α) (i : Int) (x : α) (hx : idx xs i = some x) (hT : (T t).map (·.kind) = some (.slice e)) (hk : sizeT T e = some k) (hq : h[q]? = some (.row k (xs.map f))) :
  (indexAddrH T h t (D.unt (pilD q (xs.map f))) (.v (.int .i64 i))).map (·, h) = some (.eptr q i.toNat 0, h) := by
 obtain ⟨ti, h1, h2⟩ := zB.1 hT
 obtain ⟨h0, h3, h4⟩ := idx_some hx
 have hn : natOf (.v (.int .i64 i)) = some i.toNat := by simp [natOf, h0]
 simp only [pilD, D.unt, indexAddrH, h1, h2, hn, List.length_map, if_pos h4, hk, hq, if_true, Option.map_some, Nat.zero_add]
variable {i : TI}
theorem pil_ld (h : List AObj) (k q off : Nat) (f : α → V) (xs : List α) (j : Int) (x : α) (y : V) (hx : idx xs j = some x) (hq : h[q]? = some (.row k (xs.map f))) (hy : (cut (f x).cells off i.size).bind (mkOfV i.kind.isAgg) = some y) :
  (loadD i h (.eptr q j.toNat off)).map (·, h) = some (.v y, h) := by
 obtain ⟨h0, h3, h4⟩ := idx_some hx
 have hg : (xs.map f)[j.toNat]? = some (f x) := by rw [zG, h3]; rfl
 simp only [loadD, hq, hg, hy, Option.map_some]
theorem pil_app {T : Nat → Option TI} (h : List AObj) (t e q r : Nat) (i : TI) (f : α → V) (xs ys zs : List α) (ha : app i.bytes xs ys = some zs) (hT : (T t).map (·.kind) = some (.slice e)) (hi : T e = some i) (hk : (i.size == 0) = false) (hz : (i.zero.cells.length == i.size) = true)
  (hq : h[q]? = some (.row i.size (xs.map f))) (hr : h[r]? = some (.row i.size (ys.map f))) : appendD T true t h (pilD q (xs.map f)) (pilD r (ys.map f)) = some (pilD h.length (zs.map f), h.set q .dead ++ [.row i.size (zs.map f)]) := by
 unfold app at ha
 split at ha
 ·rename_i hb
  cases ha
  obtain ⟨hb, hm⟩ := hb
  obtain ⟨ti, h1, h2⟩ := zB.1 hT
  have hk' : ¬ (i.size = 0 ∨ i.zero.cells.length ≠ i.size) := by
   rintro (h | h)
   ·simp [h] at hk
   ·exact h (by simpa using hz)
  have hel : elemsOf i.size h (D.unt (pilD r (ys.map f))) = some (ys.map f) := by
   simp only [pilD, D.unt, elemsOf, hr, List.length_map, Nat.zero_add, zL, and_self, if_true, List.drop_zero]
   rw [zX (by simp)]
  simp only [appendD, h1, h2, hi, if_neg hk', hel, Bool.true_eq_false, if_false]
  simp only [pilD, hq]
  rw [if_pos ⟨trivial, by simp, by simpa using hb, by simpa using hm⟩]
  simp [zX]
 ·cases ha
def mk {α : Type} (b : Nat) (n : Int) (z : α) : Option (List α) := if 0 ≤ n ∧ n.toNat * b ≤ 140737488355328 ∧ n.toNat ≤ maxLen then some (List.replicate n.toNat z) else none
def TK.lists : TK → Bool
 | .slice _ | .map _ _ | .ptr _ => true
 | _ => false
theorem pil_mk {T : Nat → Option TI} (h : List AObj) (t e : Nat) (i : TI) (f : α → V) (n : Int) (z : α) (zs : List α) (hm : mk i.bytes n z = some zs) (hT : (T t).map (·.kind) = some (.slice e)) (hi : T e = some i) (hk : (decide (0 < i.size) && (i.zero.solid && (i.zero.cells.length == i.size && !i.kind.lists))) = true) (hz : i.zero = f z) :
  makeSliceD T t h (.v (.int .i64 n)) (.v (.int .i64 n)) = some (pilD h.length (zs.map f), h ++ [.row i.size (zs.map f)]) := by
 unfold mk at hm
 split at hm
 case isFalse => cases hm
 rename_i hb
 cases hm
 obtain ⟨ti, h1, h2⟩ := zB.1 hT
 have hn : natOf (.v (.int .i64 n)) = some n.toNat := by simp [natOf, hb.1]
 simp only [Bool.and_eq_true, decide_eq_true_eq, beq_iff_eq, Bool.not_eq_true'] at hk
 obtain ⟨k1, k2, k3, k4⟩ := hk
 simp only [makeSliceD, h1, h2, hn, hi]
 rw [if_pos ⟨zL _, hb.2.1, hb.2.2, k1, k2, k3⟩]
 have e1 : (List.replicate n.toNat z).map f = List.replicate n.toNat i.zero := by rw [List.map_replicate, hz]
 rw [e1]
 split
 ·rename_i e; rw [e] at k4; cases k4
 ·rename_i e; rw [e] at k4; cases k4
 ·rename_i e; rw [e] at k4; cases k4
 ·simp [pilD]
theorem pil_st (h : List AObj) (k q off : Nat) (f : α → V) (xs zs : List α) (j : Int) (x x' : α) (y : V) (hx : idx xs j = some x) (hz : upd xs j x' = some zs) (hq : h[q]? = some (.row k (xs.map f)))
  (hy : ((D.v y).solid && (D.v y).cells.length == i.size) = true) (hs : storeV (f x) y off = some (f x')) (hk : ((f x').cells.length == k && (f x').solid) = true) :
  (storeD i h (.eptr q j.toNat off) (.v y)).map (U, ·) = some (U, h.set q (.row k (zs.map f))) := by
 obtain ⟨h0, h3, h4⟩ := idx_some hx
 obtain ⟨_, _, rfl⟩ := upd_some hz
 have hg : (xs.map f)[j.toNat]? = some (f x) := by rw [zG, h3]; rfl
 simp only [storeD, hy, if_true, hq, hg, hs, hk, Option.map_some, List.map_set]
theorem upd_pil {f : α → V} {q : Nat} {l zs : List α} {i : Int} {x : α} (h : upd l i x = some zs) : pilD q (l.map f) = pilD q (zs.map f) := by
 obtain ⟨_, _, rfl⟩ := upd_some h
 simp [pilD]
theorem pil_frz (h : List AObj) (n q k : Nat) (xs : List V) (hq : h[q]? = some (.row k xs)) : Abs.frz h (n + 1) (pilD q xs) = some (.sl .plain xs) := by
 simp only [pilD, Abs.frz, hq]
 rw [if_pos om]
 simp
def strI (xs : List Int) : ByteArray := ⟨(xs.map fun n => UInt8.ofNat n.toNat).toArray⟩
theorem strV_I (xs : List Int) : strV (xs.map (eK .u8)) = some (strI xs) := by
 have : bytesOfV (xs.map (eK .u8)) = some (xs.map fun n => UInt8.ofNat n.toNat) := by
  induction xs with
  | nil => rfl
  | cons x r ih => simp only [List.map_cons, bytesOfV, ih, byteV, eK]
 unfold strV
 rw [this]
 rfl
theorem conv_d {T : Nat → Option TI} (h : List AObj) (src dst e : Nat) (d : D) (xs : List Int) (hd : d.unt = .v (.sl (dfl d) (xs.map (eK .u8)))) (hs : (T src).map (·.kind) = some (.slice e))
  (he : (T e).map (·.kind) = some (.int .u8)) (ht : (T dst).map (·.kind) = some .str) : (convD T src dst (D.unt d)).map (·, h) = some (.v (.str (strI xs)), h) := by
 obtain ⟨i, h1, h2⟩ := zB.1 hs
 obtain ⟨j, h3, h4⟩ := zB.1 he
 obtain ⟨k, h5, h6⟩ := zB.1 ht
 rw [hd]
 simp only [convD, h1, h5, h2, h6, h3, h4, strV_I, Option.map_some]
theorem conv_r {T : Nat → Option TI} (h : List AObj) (src dst e : Nat) (fl : SFlag) (xs : List Int) (hs : (T src).map (·.kind) = some (.slice e))
  (he : (T e).map (·.kind) = some (.int .u8)) (ht : (T dst).map (·.kind) = some .str) : (convD T src dst (D.unt (.v (.sl fl (xs.map (eK .u8)))))).map (·, h) = some (.v (.str (strI xs)), h) :=
 conv_d h src dst e (.v (.sl fl (xs.map (eK .u8)))) xs rfl hs he ht
theorem tup_frz {h : List AObj} {rr : List V} (ds : List D) (h2 : TupOk h ds rr) : frz h 6 (mkTuple ds) = some (.tuple rr) := by
 obtain ⟨a1, a2⟩ := h2.spec
 unfold mkTuple
 split
 ·rename_i vs hvs
  simp only [Abs.frz, plainT, a2 vs hvs]
 ·simp only [Abs.frz, a1, Option.map_some]
end Go.Abs
