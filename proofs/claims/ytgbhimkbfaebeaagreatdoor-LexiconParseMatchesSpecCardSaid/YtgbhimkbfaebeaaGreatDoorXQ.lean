import Derived.Test.YtgbhimkbfaebeaaGreatDoorXP
import Derived.Test.YtgbhimkbfaebeaaGreatDoorWF2
namespace Go.Abs.Xq
open Go.Sort Go.Proofs Go.Abs.Xi Go.Abs.Xp
set_option linter.unusedVariables false
set_option linter.unusedSimpArgs false
set_option linter.unnecessarySimpa false
set_option maxRecDepth 100000
set_option maxHeartbeats 4000000
abbrev nlB : ByteArray := ⟨#[10]⟩
def isCls (s : ByteArray) : Option Bool := if (s.size : Int) ≥ 6 then match ssub s 0 6 with
 | none => none
 | some z => some (z.toList == clsB.toList)
 else some false
def stepR (m : Nat) (i : Int) (cl : List S44) (s : ByteArray) : Option (S26 ⊕ List S44) :=
 match isCls s with
 | none => none
 | some true => match ssub s 6 s.size with
  | none => none
  | some nm => some (.inr (cl ++ [⟨nm, []⟩]))
 | some false => match f32 m s with
  | none => none
  | some (_, false) => some (.inl ⟨11, i⟩)
  | some (y, true) => match cl with
   | [] => some (.inl ⟨11, i⟩)
   | c :: r => some (.inr (addI (c :: r) y))
def lofL (m : Nat) (t : ByteArray) : Nat → Int → Int → List S44 → Option (S26 ⊕ List S44)
 | 0, _, _, _ => none
 | K + 1, i, at', cl => if at' < t.size then match f31 m t at' nlB with
  | none => none
  | some e => if e < 0 then some (.inl ⟨11, i⟩) else match ssub t at' e with
   | none => none
   | some s => match stepR m i cl s with
    | none => none
    | some (.inl f) => some (.inl f)
    | some (.inr cl') => lofL m t K (w64 (i + 1)) (w64 (e + 1)) cl'
  else some (.inr cl)
def f15 (m : Nat) (a0 : ByteArray) : Option (S23 × S26) :=
 if (a0.size : Int) > 4000 then some (⟨[]⟩, ⟨1, -1⟩) else match lofL m a0 5000 0 0 [] with
  | none => none
  | some (.inl f) => some (⟨[]⟩, f)
  | some (.inr cl) => match f7 m ⟨cl⟩ with
   | none => none
   | some f => if f.fCode = 0 ∧ f.fIndex = 0 then some (⟨cl⟩, ⟨0, 0⟩) else some (⟨[]⟩, f)
theorem bsub {x b : Bool} (h : x = b) (h0 : List AObj) : (some (D.v (.bool x), h0) : Option (D × List AObj)) = some (D.v (.bool b), h0) := by rw [h]
theorem res15 : resOf Tryz.prog 15 = resOf Tryz.prog 14 := by kernel_rfl
noncomputable def C15 : Code := bodyOf Tryz.prog 15
noncomputable abbrev T15 : Code := cR (cR (cR (cR (cR C15))))
theorem tail15 (n m : Nat) (hn : m + 6 ≤ n) {cl : List S44} {cd : D} {G : List AObj} (hI : InvP cl cd G) (f : S26) (hf : f7 m ⟨cl⟩ = some f) {Q : Post}
  (hQ1 : f.fCode = 0 ∧ f.fIndex = 0 → ∀ σ, Fin14 ⟨cl⟩ ⟨0, 0⟩ σ → Q .ret σ) (hQ2 : ¬ (f.fCode = 0 ∧ f.fIndex = 0) → ∀ σ, Fin14 ⟨[]⟩ f σ → Q .ret σ) :
  Ht False Tryz.prog T15 (Sm 97 [(2, .ptr 0 0), (3, .ptr 1 0), (4, .ptr 2 0)] G) Q := by
 have hxn := hxT n
 have g2 := hI.g2
 have hlen := hI.len
 refine Ht.sq (Ht.sq (Ht.rg hxn ?_))
 refine Ops.on 1 (fun h0 e0 => ldc (i := ti24) (h := h0) (r := 2) (off := 0) (cs := [cd]) (d := mkAgg [cd]) (hq_of (g := G) (e0.trans (by kernel_rfl)) g2) rfl) ?_
 refine Ops.on 2 (fun h0 e0 => call_fl (E' := E) (h := h0) (by kernel_rfl) (ArgsC.cons (mkAgg [cd]) (.v (e23 ⟨cl⟩)) (by rw [show h0 = G from e0.trans (by kernel_rfl)]; exact argP_cl hI.cls) ArgsC.nil) rfl (ok7 m ⟨cl⟩ f hf n (by omega))) ?_
 refine Ops.sg 1 3 ?_
 refine Ops.on 4 (fun h0 e0 => stc (i := ti27) (h := h0) (r := G.length) (off := 0) (cs := [dI 0, dI 0]) (cs' := [dI f.fCode, dI f.fIndex]) (x := .v (.agg [vI f.fCode, vI f.fIndex])) (hq_of (g := G ++ [c00]) (e0.trans (by kernel_rfl)) (mid_get G _ _)) rfl rfl) ?_
 refine Ops.dn (seqH.n ?_)
 refine Ht.forget [2, 3, 4, 12] (Ht.st (σ' := Sm 97 [(2, .ptr 0 0), (3, .ptr 1 0), (4, .ptr 2 0), (12, .ptr G.length 0)] (G ++ [.cells [dI f.fCode, dI f.fIndex]])) (by rw [← mid_set G (.cells [dI 0, dI 0])]; kernel_rfl) ?_)
 have z0 : (G ++ [AObj.cells [dI f.fCode, dI f.fIndex]])[0]? = some (.cells [.v (.sl .nil [])]) := by rw [List.getElem?_append_left (by omega)]; exact hI.g0
 have z1 : (G ++ [AObj.cells [dI f.fCode, dI f.fIndex]])[1]? = some (.cells [dI 0, dI 0]) := by rw [List.getElem?_append_left (by omega)]; exact hI.g1
 have z2 : (G ++ [AObj.cells [dI f.fCode, dI f.fIndex]])[2]? = some (.cells [cd]) := by rw [List.getElem?_append_left (by omega)]; exact hI.g2
 have z3 : (G ++ [AObj.cells [dI f.fCode, dI f.fIndex]])[G.length]? = some (.cells [dI f.fCode, dI f.fIndex]) := mid_get _ _ _
 have hI' : InvP cl cd (G ++ [AObj.cells [dI f.fCode, dI f.fIndex]]) := hI.keep fun r o hr h => by rw [List.getElem?_append_left hr]; exact h
 obtain ⟨q, hq⟩ : ∃ q, G.length = q + 3 := ⟨G.length - 3, by omega⟩
 rw [hq] at z3 ⊢
 generalize G ++ [AObj.cells [dI f.fCode, dI f.fIndex]] = K at z0 z1 z2 z3 hI' ⊢
 refine Ht.sq (Ht.rg hxn ?_)
 refine Ops.on 1 (fun h0 e0 => ldc (i := ti27) (h := h0) (r := q + 3) (off := 0) (d := .v (.agg [vI f.fCode, vI f.fIndex])) (hq_of (g := K) (e0.trans (by kernel_rfl)) z3) rfl) ?_
 refine Ops.sg 2 3 (Ops.dn (seqH.n ?_))
 refine Ht.cond (!((f.fCode == 0) && ((f.fIndex == 0) && true))) (by kernel_rfl) (by kernel_rfl) (fun hc => ?_) (fun hc => ?_)
 ·have hc : ¬ (f.fCode = 0 ∧ f.fIndex = 0) := by rintro ⟨h1, h2⟩; rw [h1, h2] at hc; exact absurd hc (by decide)
  refine Ht.sq (Ht.regionF hxn (by kernel_rfl) (Ops.sg 1 1 ?_))
  refine Ops.on 2 (fun h0 e0 => ldc (i := ti27) (h := h0) (r := q + 3) (off := 0) (d := .v (.agg [vI f.fCode, vI f.fIndex])) (hq_of (g := K) (e0.trans (by kernel_rfl)) z3) rfl) ?_
  refine Ops.on 3 (fun h0 e0 => stc (i := ti24) (h := h0) (r := 0) (off := 0) (cs := [.v (.sl .nil [])]) (cs' := [.v (.sl .nil [])]) (x := .v (.agg [.sl .nil []])) (hq_of (g := K) (e0.trans (by kernel_rfl)) z0) rfl rfl) ?_
  refine Ops.on 4 (fun h0 e0 => stc (i := ti27) (h := h0) (r := 1) (off := 0) (cs := [dI 0, dI 0]) (cs' := [dI f.fCode, dI f.fIndex]) (x := .v (.agg [vI f.fCode, vI f.fIndex])) (hq_of (g := K.set 0 cN) (e0.trans (by kernel_rfl)) (zz z1)) rfl rfl) ?_
  refine Ops.dn (Ht.rt ?_)
  refine hQ2 hc _ (finR (a := f.fCode) (b := f.fIndex) (by kernel_rfl) (by kernel_rfl) ?_ ?_)
  ·show ((K.set 0 _).set 1 _)[0]? = _
   rw [List.getElem?_set_ne (by omega), List.getElem?_set_self (lt_of_getElem? z0)]
  ·show ((K.set 0 _).set 1 _)[1]? = _
   rw [List.getElem?_set_self (by rw [List.length_set]; exact lt_of_getElem? z1)]
 ·have hc : f.fCode = 0 ∧ f.fIndex = 0 := by simpa using hc
  refine Ht.sk (seqH.n (Ht.sq (Ht.rg hxn ?_)))
  refine Ops.on 1 (fun h0 e0 => ldc (i := ti24) (h := h0) (r := 2) (off := 0) (cs := [cd]) (d := mkAgg [cd]) (hq_of (g := K) (e0.trans (by kernel_rfl)) z2) rfl) ?_
  refine Ops.sg 1 2 ?_
  refine Ops.on 3 (fun h0 e0 => st0 (G := K) (h := h0) (cs := [.v (.sl .nil [])]) hI'.cls (hq_of (g := K) (e0.trans (by kernel_rfl)) z0) rfl) ?_
  refine Ops.on 4 (fun h0 e0 => stc (i := ti27) (h := h0) (r := 1) (off := 0) (cs := [dI 0, dI 0]) (cs' := [dI 0, dI 0]) (x := .v (.agg [vI 0, vI 0])) (hq_of (g := K.set 0 (.cells [cd])) (e0.trans (by kernel_rfl)) (zz z1)) rfl rfl) ?_
  refine Ops.dn (seqH.n (Ht.rt ?_))
  refine hQ1 hc _ (finO (G := K) (by kernel_rfl) (by kernel_rfl) (cd := cd) ?_ ?_ ?_)
  ·show ((K.set 0 _).set 1 _)[0]? = _
   rw [List.getElem?_set_ne (by omega), List.getElem?_set_self (lt_of_getElem? z0)]
  ·show ((K.set 0 _).set 1 _)[1]? = _
   rw [List.getElem?_set_self (by rw [List.length_set]; exact lt_of_getElem? z1)]
  ·show ClOk ((K.set 0 _).set 1 _) cl cd
   refine hI'.cls.keep fun r o hr h => ?_
   rw [List.getElem?_set_ne (by omega), List.getElem?_set_ne (by omega)]
   exact h
noncomputable abbrev LP15 : Code := cL (cR (cL (cR (cR (cR (cR C15))))))
noncomputable abbrev LB15 : Code := cL LP15
noncomputable abbrev BK15 : Code := cL (cL (cR LB15))
noncomputable abbrev R11 : Code := cR (cR BK15)
noncomputable abbrev R13 : Code := cR (cR R11)
noncomputable abbrev R15 : Code := cR R13
theorem ret10 (n m : Nat) (hn : m + 6 ≤ n) (i : Int) (K : List AObj) (k0 : K[0]? = some cN) (k1 : K[1]? = some c00) {Q : Post} (hQ : ∀ σ, Fin14 ⟨[]⟩ ⟨11, i⟩ σ → Q .ret σ) :
  Ht False Tryz.prog (cL (cR (cL (cR BK15)))) (Sm 97 [(2, .ptr 0 0), (3, .ptr 1 0), (5, dI i)] K) Q := by
 have hxn := hxT n
 refine Ht.sq (Ht.rg hxn (Ops.sg 2 2 ?_))
 refine Ops.on 3 (fun h0 e0 => call_ok (E' := E) (h := h0) (by kernel_rfl) (Args.v (vI 11) (eI 11) (by kernel_rfl) (Args.v (vI i) (eI i) (by kernel_rfl) Args.nil)) (ok18 m 11 i ⟨11, i⟩ rfl n (by omega))) ?_
 refine Ops.on 4 (fun h0 e0 => stc (i := ti24) (h := h0) (r := 0) (off := 0) (cs := [.v (.sl .nil [])]) (cs' := [.v (.sl .nil [])]) (x := .v (.agg [.sl .nil []])) (hq_of (g := K) (e0.trans (by kernel_rfl)) k0) rfl rfl) ?_
 refine Ops.on 5 (fun h0 e0 => stc (i := ti27) (h := h0) (r := 1) (off := 0) (cs := [dI 0, dI 0]) (cs' := [dI 11, dI i]) (x := .v (.agg [vI 11, vI i])) (hq_of (g := K.set 0 cN) (e0.trans (by kernel_rfl)) (zz k1)) rfl rfl) ?_
 refine Ops.dn (seqH.n (Ht.rt ?_))
 refine hQ _ (finR (a := 11) (b := i) (by kernel_rfl) (by kernel_rfl) ?_ ?_)
 ·show ((K.set 0 _).set 1 _)[0]? = _
  rw [List.getElem?_set_ne (by omega), List.getElem?_set_self (lt_of_getElem? k0)]
 ·show ((K.set 0 _).set 1 _)[1]? = _
  rw [List.getElem?_set_self (by rw [List.length_set]; exact lt_of_getElem? k1)]
theorem ret17 (n m : Nat) (hn : m + 6 ≤ n) (i : Int) (K : List AObj) (k0 : K[0]? = some cN) (k1 : K[1]? = some c00) {Q : Post} (hQ : ∀ σ, Fin14 ⟨[]⟩ ⟨11, i⟩ σ → Q .ret σ) :
  Ht False Tryz.prog (cL (cR (cL (cR R15)))) (Sm 97 [(2, .ptr 0 0), (3, .ptr 1 0), (5, dI i)] K) Q := by
 have hxn := hxT n
 refine Ht.sq (Ht.rg hxn (Ops.sg 2 2 ?_))
 refine Ops.on 3 (fun h0 e0 => call_ok (E' := E) (h := h0) (by kernel_rfl) (Args.v (vI 11) (eI 11) (by kernel_rfl) (Args.v (vI i) (eI i) (by kernel_rfl) Args.nil)) (ok18 m 11 i ⟨11, i⟩ rfl n (by omega))) ?_
 refine Ops.on 4 (fun h0 e0 => stc (i := ti24) (h := h0) (r := 0) (off := 0) (cs := [.v (.sl .nil [])]) (cs' := [.v (.sl .nil [])]) (x := .v (.agg [.sl .nil []])) (hq_of (g := K) (e0.trans (by kernel_rfl)) k0) rfl rfl) ?_
 refine Ops.on 5 (fun h0 e0 => stc (i := ti27) (h := h0) (r := 1) (off := 0) (cs := [dI 0, dI 0]) (cs' := [dI 11, dI i]) (x := .v (.agg [vI 11, vI i])) (hq_of (g := K.set 0 cN) (e0.trans (by kernel_rfl)) (zz k1)) rfl rfl) ?_
 refine Ops.dn (seqH.n (Ht.rt ?_))
 refine hQ _ (finR (a := 11) (b := i) (by kernel_rfl) (by kernel_rfl) ?_ ?_)
 ·show ((K.set 0 _).set 1 _)[0]? = _
  rw [List.getElem?_set_ne (by omega), List.getElem?_set_self (lt_of_getElem? k0)]
 ·show ((K.set 0 _).set 1 _)[1]? = _
  rw [List.getElem?_set_self (by rw [List.length_set]; exact lt_of_getElem? k1)]
abbrev KS : List Nat := [0, 2, 3, 4, 5, 6]
abbrev S15 (t : ByteArray) (i a : Int) (G : List AObj) : St := Sm 97 [(0, .v (.str t)), (2, .ptr 0 0), (3, .ptr 1 0), (4, .ptr 2 0), (5, dI i), (6, dI a)] G
def LS (m : Nat) (t : ByteArray) (goal : S26 ⊕ List S44) : Nat → St → Prop := fun K σ => ∃ (j : Nat) (i a : Int) (cl : List S44) (cd : D) (G : List AObj), j + K ≤ 1000000 ∧ lofL m t K i a cl = some goal ∧ InvP cl cd G ∧ Bnd j cl ∧ Abs.forget KS σ = S15 t i a G
theorem next15 (n m : Nat) {t : ByteArray} {goal : S26 ⊕ List S44} {K j : Nat} {i a : Int} (hj : j + 1 + K ≤ 1000000) {cl : List S44} {cd : D} {G : List AObj} (hps : lofL m t K (w64 (i + 1)) a cl = some goal) (hI : InvP cl cd G) (hb : Bnd (j + 1) cl) {Q : Post} {σ : St} (hσ : Abs.forget KS σ = S15 t i a G) :
  Ht False Tryz.prog (cR (cR LB15)) σ (lpH (LS m t goal) (K + 1) Q) := by
 have hxn := hxT n
 refine Ht.forget KS (Ht.st hσ (Ht.rg hxn (Ops.sg 3 3 (Ops.dn ?_))))
 exact ⟨K, by omega, j + 1, w64 (i + 1), a, cl, cd, G, hj, hps, hI, hb, by kernel_rfl⟩
noncomputable abbrev A14 : Code := cL (cR (cL R13))
theorem class15 (n : Nat) {t s : ByteArray} {i a : Int} {nm : ByteArray} (hs : ssub s 6 s.size = some nm) {cl : List S44} {cd : D} {G : List AObj} (hI : InvP cl cd G) (hb : cl.length ≤ 1000000) {Q : Post}
  (hQ : ∀ cd' G' σ, InvP (cl ++ [⟨nm, []⟩]) cd' G' → Abs.forget KS σ = S15 t i a G' → Q (.exit 1) σ) :
  Ht False Tryz.prog A14 (Sm 97 [(0, .v (.str t)), (2, .ptr 0 0), (3, .ptr 1 0), (4, .ptr 2 0), (5, dI i), (6, dI a), (8, .v (.str s))] G) Q := by
 have hxn := hxT n
 have g2 := hI.g2
 have hlen := hI.len
 have hK : InvP cl cd (G ++ [rN nm]) := hI.keep fun r o hr h => app_keep h
 cases hI.cls with
 | nil =>
  refine Ht.sq (Ht.rg hxn (Ops.sg 1 1 ?_))
  refine Ops.on 2 (fun h0 e0 => ldc (i := ti22) (h := h0) (r := 2) (off := 0) (cs := [.v (.sl .nil [])]) (d := .v (.sl .nil [])) (hq_of (g := G) (e0.trans (by kernel_rfl)) g2) rfl) ?_
  refine Ops.sg 1 3 ?_
  refine Ops.on 4 (fun h0 e0 => str_sub (T := T) h0 9 s nm (some 6) none hs (by kernel_rfl)) ?_
  refine Ops.sg 2 6 ?_
  refine Ops.on 7 (fun h0 e0 => appC0 (h := h0) (q := G.length) (nm := nm) (hq_of (g := G ++ [rN nm]) (e0.trans (by kernel_rfl)) (mid_get G _ _))) ?_
  refine Ops.sg 1 8 ?_
  refine Ops.on 9 (fun h0 e0 => stc (i := ti22) (h := h0) (r := 2) (off := 0) (cs := [.v (.sl .nil [])]) (cs' := [.osl (G ++ [rN nm]).length 0 1 false]) (x := .osl (G ++ [rN nm]).length 0 1 false) (hq_of (g := G ++ [rN nm] ++ [rN nm]) (e0.trans (by kernel_rfl)) (app_keep hK.g2)) rfl rfl) ?_
  refine Ops.dn (seqH.n ?_)
  refine Ht.forget KS (Ht.st (σ' := S15 t i a ((G ++ [rN nm] ++ [rN nm]).set 2 (.cells [.osl (G ++ [rN nm]).length 0 1 false]))) (by kernel_rfl) (Ht.regrid (r := (G ++ [rN nm]).length) (k := 2) (es := [cX nm]) (set_keep (by have := hK.len; omega) (mid_get (G ++ [rN nm]) _ _)) (Ht.exit (id := 1) (by kernel_rfl) ?_)))
  exact hQ _ _ _ (hK.cls0 nm) (by kernel_rfl)
 | cons init c r it hr3 hr hit =>
  have hb : init.length + 1 ≤ 1000000 := by simpa using hb
  have hr' : (G ++ [rN nm])[r]? = some (.grid 2 (gC init ++ [.v (.str c.fName), it])) := app_keep hr
  have hit' : ItOk (G ++ [rN nm]) r c.fItems it := by
   rcases hit with h | ⟨h1, q, h2, h3, h4, h5⟩
   ·exact .inl h
   ·exact .inr ⟨h1, q, h2, h3, h4, app_keep h5⟩
  refine Ht.sq (Ht.rg hxn (Ops.sg 1 1 ?_))
  refine Ops.on 2 (fun h0 e0 => ldc (i := ti22) (h := h0) (r := 2) (off := 0) (cs := [.osl r 0 (init.length + 1) false]) (d := .osl r 0 (init.length + 1) false) (hq_of (g := G) (e0.trans (by kernel_rfl)) g2) rfl) ?_
  refine Ops.sg 1 3 ?_
  refine Ops.on 4 (fun h0 e0 => str_sub (T := T) h0 9 s nm (some 6) none hs (by kernel_rfl)) ?_
  refine Ops.sg 2 6 ?_
  refine Ops.on 7 (fun h0 e0 => appC1 (h := h0) (r := r) (n := init.length + 1) (q := G.length) (nm := nm) (hq_of (g := G ++ [rN nm]) (e0.trans (by kernel_rfl)) (mid_get G _ _)) (hq_of (g := G ++ [rN nm]) (e0.trans (by kernel_rfl)) hr') (by rw [List.length_append, gC_len]; simp only [List.length_cons, List.length_nil]; omega) hb) ?_
  refine Ops.sg 1 8 ?_
  refine Ops.on 9 (fun h0 e0 => stc (i := ti22) (h := h0) (r := 2) (off := 0) (cs := [.osl r 0 (init.length + 1) false]) (cs' := [.osl (G ++ [rN nm]).length 0 (init.length + 1 + 1) false]) (x := .osl (G ++ [rN nm]).length 0 (init.length + 1 + 1) false) (hq_of (g := (G ++ [rN nm]).set r .dead ++ [gN init c it nm]) (e0.trans (by kernel_rfl)) (app_keep (set_keep (by omega) hK.g2))) rfl rfl) ?_
  refine Ops.dn (seqH.n (Ht.exit (id := 1) (by kernel_rfl) ?_))
  exact hQ _ _ _ (hK.cls1 hr3 hr' hit' nm) (by kernel_rfl)
theorem item15 (n m : Nat) (hn : m + 6 ≤ n) {t s : ByteArray} {i a : Int} {y : S46} {ok : Bool} (hf : f32 m s = some (y, ok)) {cl : List S44} {cd : D} {G : List AObj} (hI : InvP cl cd G) (hb : cl.length ≤ 1000000) (hb2 : ∀ c ∈ cl, c.fItems.length ≤ 1000000) {Q : Post}
  (hQ1 : ok = false ∨ cl = [] → ∀ σ, Fin14 ⟨[]⟩ ⟨11, i⟩ σ → Q .ret σ)
  (hQ2 : ok = true → ∀ init c, cl = init ++ [c] → ∀ cd' G' σ, InvP (init ++ [⟨c.fName, c.fItems ++ [y]⟩]) cd' G' → Abs.forget KS σ = S15 t i a G' → Q .normal σ) :
  Ht False Tryz.prog R15 (Sm 97 [(0, .v (.str t)), (2, .ptr 0 0), (3, .ptr 1 0), (4, .ptr 2 0), (5, dI i), (6, dI a), (8, .v (.str s))] G) Q := by
 have hxn := hxT n
 have hxw := hxW n
 have hlen := hI.len
 refine Ht.sq (Ht.rg hxn (Ops.sg 1 1 ?_))
 refine Ops.on 2 (fun h0 e0 => call_ok (E' := E) (h := h0) (by kernel_rfl) (Args.v (.str s) (eS s) (by kernel_rfl) Args.nil) (ok32 m s (y, ok) hf n (by omega))) ?_
 refine Ops.sg 4 6 ?_
 refine Ops.on 7 (fun h0 e0 => stc (i := ti47) (h := h0) (r := G.length) (off := 0) (cs := [.v (.str ByteArray.empty), .v (.str ByteArray.empty), .v (.sl .nil []), dI 0, dI 0]) (cs' := [.v (.str y.fBase), .v (.str y.fForm), .v (vP eS y.fTags), dI y.fNext, dI y.fWeight]) (x := .v (e46 y)) (hq_of (g := G ++ [zC]) (e0.trans (by kernel_rfl)) (mid_get G _ _)) rfl rfl) ?_
 refine Ops.sg 1 8 (Ops.dn (seqH.n ?_))
 refine Ht.forget [0, 2, 3, 4, 5, 6, 9, 10] (Ht.st (σ' := Sm 97 [(0, .v (.str t)), (2, .ptr 0 0), (3, .ptr 1 0), (4, .ptr 2 0), (5, dI i), (6, dI a), (9, .ptr G.length 0), (10, .v (.bool ok))] (G ++ [yC y])) (by rw [← mid_set G zC]; kernel_rfl) ?_)
 have hK : InvP cl cd (G ++ [yC y]) := hI.keep fun r o hr h => app_keep h
 have hyK : (G ++ [yC y])[G.length]? = some (yC y) := mid_get _ _ _
 generalize G ++ [yC y] = K at hK hyK ⊢
 generalize G.length = p at hyK hlen ⊢
 have hKl := hK.len
 have g2 := hK.g2
 refine Ht.sq (Ht.sq ?_)
 cases ok with
 | false =>
  refine Ht.rg hxn (Ops.sg 8 8 (Ops.dn (seqH.n ?_)))
  refine Ht.cond true (by kernel_rfl) (by kernel_rfl) (fun _ => ?_) (fun hc => nomatch hc)
  refine Ht.forget [2, 3, 5] (Ht.st (σ' := Sm 97 [(2, .ptr 0 0), (3, .ptr 1 0), (5, dI i)] K) (by kernel_rfl) ?_)
  exact ret17 n m hn i K hK.g0 hK.g1 (hQ1 (.inl rfl))
 | true =>
  cases hK.cls with
  | nil =>
   refine Ht.rg hxn (Ops.sg 4 4 ?_)
   refine Ops.on 5 (fun h0 e0 => ldc (i := ti22) (h := h0) (r := 2) (off := 0) (cs := [.v (.sl .nil [])]) (d := .v (.sl .nil [])) (hq_of (g := K) (e0.trans (by kernel_rfl)) g2) rfl) ?_
   refine Ops.sg 3 8 (Ops.dn (seqH.n ?_))
   refine Ht.cond true (by kernel_rfl) (by kernel_rfl) (fun _ => ?_) (fun hc => nomatch hc)
   refine Ht.forget [2, 3, 5] (Ht.st (σ' := Sm 97 [(2, .ptr 0 0), (3, .ptr 1 0), (5, dI i)] K) (by kernel_rfl) ?_)
   exact ret17 n m hn i K hK.g0 hK.g1 (hQ1 (.inr rfl))
  | cons init c r it hr3 hrK hitK =>
   have hb : init.length + 1 ≤ 1000000 := by simpa using hb
   have hb2 := hb2 c (List.mem_append_right _ List.mem_cons_self)
   refine Ht.rg hxn (Ops.sg 4 4 ?_)
   refine Ops.on 5 (fun h0 e0 => ldc (i := ti22) (h := h0) (r := 2) (off := 0) (cs := [.osl r 0 (init.length + 1) false]) (d := .osl r 0 (init.length + 1) false) (hq_of (g := K) (e0.trans (by kernel_rfl)) g2) rfl) ?_
   refine Ops.sg 3 8 (Ops.dn (seqH.n ?_))
   refine Ht.cond (((init.length + 1 : Nat) : Int) == 0) (by kernel_rfl) (by kernel_rfl) (fun hc => ?_) (fun _ => ?_)
   ·have hc : ((init.length + 1 : Nat) : Int) = 0 := by simpa using hc
    omega
   refine Ht.sk (seqH.n ?_)
   have hw : w64 (((init.length + 1 : Nat) : Int) - 1) = (init.length : Int) := by rw [w64_id ⟨by omega, by omega⟩]; omega
   refine Ht.sq (Ht.rg hxn (Ops.sg 1 1 ?_))
   refine Ops.on 2 (fun h0 e0 => ldc (i := ti22) (h := h0) (r := 2) (off := 0) (cs := [.osl r 0 (init.length + 1) false]) (d := .osl r 0 (init.length + 1) false) (hq_of (g := K) (e0.trans (by kernel_rfl)) g2) rfl) ?_
   refine Ops.sg 3 5 (Ops.dn (seqH.n ?_))
   refine Ht.forget [0, 2, 3, 4, 5, 6, 9, 11] (Ht.st (σ' := Sm 97 [(0, .v (.str t)), (2, .ptr 0 0), (3, .ptr 1 0), (4, .ptr 2 0), (5, dI i), (6, dI a), (9, .ptr p 0), (11, dI (w64 (((init.length + 1 : Nat) : Int) - 1)))] K) (by kernel_rfl) ?_)
   have hnz : c.fItems = [] → c.fItems ++ [y] = [y] := fun h => by rw [h]; rfl
   rcases hitK with ⟨hi0, rfl⟩ | ⟨hi0, q, hq3, hqr, rfl, hqt⟩
   ·refine Ht.rg hxw (Ops.sg 1 1 ?_)
    refine Ops.on 2 (fun h0 e0 => ldc (i := ti22) (h := h0) (r := 2) (off := 0) (cs := [.osl r 0 (init.length + 1) false]) (d := .osl r 0 (init.length + 1) false) (hq_of (g := K) (e0.trans (by kernel_rfl)) g2) rfl) ?_
    refine Ops.sg 2 4 ?_
    refine Ops.on 5 (fun h0 e0 => ldc (i := ti22) (h := h0) (r := 2) (off := 0) (cs := [.osl r 0 (init.length + 1) false]) (d := .osl r 0 (init.length + 1) false) (hq_of (g := K) (e0.trans (by kernel_rfl)) g2) rfl) ?_
    refine Ops.sg 1 6 ?_
    refine Ops.on 7 (fun h0 e0 => ixG (h := h0) (r := r) (n := init.length) (x := w64 (((init.length + 1 : Nat) : Int) - 1)) (hq_of (g := K) (e0.trans (by kernel_rfl)) hrK) hw) ?_
    refine Ops.sg 1 8 ?_
    refine Ops.on 9 (fun h0 e0 => ldg (i := ti43) (h := h0) (r := r) (off := init.length * 2 + 1) (cs := gC init ++ [.v (.str c.fName), .v (.sl .nil [])]) (d := .v (.sl .nil [])) (hq_of (g := K) (e0.trans (by kernel_rfl)) hrK) (cut_it init _ _)) ?_
    refine Ops.on 10 (fun h0 e0 => ldc (i := ti47) (h := h0) (r := p) (off := 0) (d := .v (e46 y)) (hq_of (g := K) (e0.trans (by kernel_rfl)) hyK) rfl) ?_
    refine Ops.sg 1 11 ?_
    refine Ops.on 12 (fun h0 e0 => appI0 h0 y) ?_
    refine Ops.on 13 (fun h0 e0 => ixG (h := h0) (r := r) (n := init.length) (x := w64 (((init.length + 1 : Nat) : Int) - 1)) (hq_of (g := K ++ [tk 1]) (e0.trans (by kernel_rfl)) (app_keep hrK)) hw) ?_
    refine Ops.sg 1 14 ?_
    refine Ops.on 15 (fun h0 e0 => stg (i := ti43) (h := h0) (r := r) (off := init.length * 2 + 1) (cs := gC init ++ [.v (.str c.fName), .v (.sl .nil [])]) (cs' := gC init ++ [.v (.str c.fName), .tsl K.length [e46 y]]) (x := .tsl K.length [e46 y]) (hq_of (g := K ++ [tk 1]) (e0.trans (by kernel_rfl)) (app_keep hrK)) rfl (spl_it init _ _ _)) ?_
    refine Ops.dn ?_
    have hz := hK.item (q := K.length) (K := K ++ [tk 1]) rfl hr3 y hKl (by have := lt_of_getElem? hrK; omega) (fun j o hj h => app_keep h) (app_keep hrK) (by rw [hnz hi0]; exact mid_get _ _ _)
    rw [hnz hi0] at hz
    refine hQ2 rfl init c rfl _ _ _ (by rw [hnz hi0]; exact hz) (by kernel_rfl)
   ·refine Ht.rg hxw (Ops.sg 1 1 ?_)
    refine Ops.on 2 (fun h0 e0 => ldc (i := ti22) (h := h0) (r := 2) (off := 0) (cs := [.osl r 0 (init.length + 1) false]) (d := .osl r 0 (init.length + 1) false) (hq_of (g := K) (e0.trans (by kernel_rfl)) g2) rfl) ?_
    refine Ops.sg 2 4 ?_
    refine Ops.on 5 (fun h0 e0 => ldc (i := ti22) (h := h0) (r := 2) (off := 0) (cs := [.osl r 0 (init.length + 1) false]) (d := .osl r 0 (init.length + 1) false) (hq_of (g := K) (e0.trans (by kernel_rfl)) g2) rfl) ?_
    refine Ops.sg 1 6 ?_
    refine Ops.on 7 (fun h0 e0 => ixG (h := h0) (r := r) (n := init.length) (x := w64 (((init.length + 1 : Nat) : Int) - 1)) (hq_of (g := K) (e0.trans (by kernel_rfl)) hrK) hw) ?_
    refine Ops.sg 1 8 ?_
    refine Ops.on 9 (fun h0 e0 => ldg (i := ti43) (h := h0) (r := r) (off := init.length * 2 + 1) (cs := gC init ++ [.v (.str c.fName), .tsl q (c.fItems.map e46)]) (d := .tsl q (c.fItems.map e46)) (hq_of (g := K) (e0.trans (by kernel_rfl)) hrK) (cut_it init _ _)) ?_
    refine Ops.on 10 (fun h0 e0 => ldc (i := ti47) (h := h0) (r := p) (off := 0) (d := .v (e46 y)) (hq_of (g := K) (e0.trans (by kernel_rfl)) hyK) rfl) ?_
    refine Ops.sg 1 11 ?_
    refine Ops.on 12 (fun h0 e0 => appI1 (h := h0) (q := q) (l := c.fItems) y (hq_of (g := K) (e0.trans (by kernel_rfl)) hqt) hb2) ?_
    refine Ops.on 13 (fun h0 e0 => ixG (h := h0) (r := r) (n := init.length) (x := w64 (((init.length + 1 : Nat) : Int) - 1)) (hq_of (g := K.set q .dead ++ [tl c.fItems y]) (e0.trans (by kernel_rfl)) (app_keep (set_keep hqr hrK))) hw) ?_
    refine Ops.sg 1 14 ?_
    refine Ops.on 15 (fun h0 e0 => stg (i := ti43) (h := h0) (r := r) (off := init.length * 2 + 1) (cs := gC init ++ [.v (.str c.fName), .tsl q (c.fItems.map e46)]) (cs' := gC init ++ [.v (.str c.fName), .tsl K.length ((c.fItems ++ [y]).map e46)]) (x := .tsl K.length ((c.fItems ++ [y]).map e46)) (hq_of (g := K.set q .dead ++ [tl c.fItems y]) (e0.trans (by kernel_rfl)) (app_keep (set_keep hqr hrK))) rfl (spl_it init _ _ _)) ?_
    refine Ops.dn ?_
    have hz := hK.item (q := K.length) (K := K.set q .dead ++ [tl c.fItems y]) rfl hr3 y hKl (by have := lt_of_getElem? hrK; omega) (fun j o hj h => app_keep (set_keep (by omega) h)) (app_keep (set_keep hqr hrK)) (by
     have e : K.length = (K.set q AObj.dead).length := by simp
     rw [e]; exact mid_get _ _ _)
    exact hQ2 rfl init c rfl _ _ _ hz (by kernel_rfl)
theorem loop15 (n m : Nat) (hn : m + 6 ≤ n) {t : ByteArray} {goal : S26 ⊕ List S44} {Q : Post}
  (hret : ∀ f, goal = .inl f → ∀ σ, Fin14 ⟨[]⟩ f σ → Q .ret σ)
  (hend : ∀ cl cd G σ, goal = .inr cl → InvP cl cd G → Abs.forget [2, 3, 4] σ = Sm 97 [(2, .ptr 0 0), (3, .ptr 1 0), (4, .ptr 2 0)] G → Q (.exit 0) σ)
  {G : List AObj} (hI : InvP [] (.v (.sl .nil [])) G) (hps : lofL m t 5000 0 0 [] = some goal) : Ht False Tryz.prog LP15 (S15 t 0 0 G) Q := by
 have hxn := hxT n
 refine Ht.loop (LS m t goal) 5000 (by kernel_rfl) ⟨0, 0, 0, [], _, G, by omega, hps, hI, ⟨Nat.zero_le _, fun c hc => nomatch hc⟩, by kernel_rfl⟩ ?_
 clear hps hI G
 rintro K σ ⟨j, i, a, cl, cd, G, hj, hps, hI, hb, hσ⟩
 obtain ⟨K, rfl⟩ : ∃ q, K = q + 1 := by
  cases K with
  | zero => cases hps
  | succ q => exact ⟨q, rfl⟩
 have hps : (if a < t.size then match f31 m t a nlB with
  | none => none
  | some e => if e < 0 then some (.inl ⟨11, i⟩) else match ssub t a e with
   | none => none
   | some s => match stepR m i cl s with
    | none => none
    | some (.inl f) => some (.inl f)
    | some (.inr cl') => lofL m t K (w64 (i + 1)) (w64 (e + 1)) cl'
  else some (.inr cl)) = some goal := hps
 refine Ht.forget KS (Ht.st hσ ?_)
 clear hσ
 refine Ht.sq (Ht.sq (Ht.rg hxn (Ops.sg 4 4 (Ops.dn (seqH.n ?_)))))
 refine Ht.cond (decide (a < (t.size : Int))) (by kernel_rfl) (by kernel_rfl) (fun hc => ?_) (fun hc => ?_)
 case refine_2 =>
  have hc := of_decide_eq_false hc
  rw [if_neg hc] at hps
  refine Ht.exit (id := 0) (by kernel_rfl) ?_
  exact hend cl cd G _ (Option.some.inj hps).symm hI (by kernel_rfl)
 have hc := of_decide_eq_true hc
 rw [if_pos hc] at hps
 obtain ⟨e, he⟩ : ∃ e, f31 m t a nlB = some e := by
  cases hz : f31 m t a nlB with
  | none => rw [hz] at hps; cases hps
  | some e => exact ⟨e, rfl⟩
 rw [he] at hps
 have hps : (if e < 0 then some (.inl ⟨11, i⟩) else match ssub t a e with
   | none => none
   | some s => match stepR m i cl s with
    | none => none
    | some (.inl f) => some (.inl f)
    | some (.inr cl') => lofL m t K (w64 (i + 1)) (w64 (e + 1)) cl') = some goal := hps
 refine Ht.sk (seqH.n (Ht.sq (Ht.bk 1 (Ht.sq (Ht.rg hxn (Ops.sg 2 2 ?_))))))
 refine Ops.on 3 (fun h0 e0 => call_ok (E' := E) (h := h0) (by kernel_rfl) (Args.v (.str t) (eS t) (by kernel_rfl) (Args.v (vI a) (eI a) (by kernel_rfl) (Args.v (.str nlB) (eS nlB) (by kernel_rfl) Args.nil))) (ok31 m t a nlB e he n (by omega))) ?_
 refine Ops.sg 1 4 (Ops.dn (seqH.n (Ht.sq (Ht.sq (Ht.rg hxn (Ops.sg 2 2 (Ops.dn (seqH.n ?_))))))))
 refine Ht.cond (decide (e < 0)) (by kernel_rfl) (by kernel_rfl) (fun hc => ?_) (fun hc => ?_)
 ·have hc := of_decide_eq_true hc
  rw [if_pos hc] at hps
  refine Ht.forget [2, 3, 5] (Ht.st (σ' := Sm 97 [(2, .ptr 0 0), (3, .ptr 1 0), (5, dI i)] G) (by kernel_rfl) ?_)
  exact ret10 n m hn i G hI.g0 hI.g1 (fun σ hσ => hret _ (Option.some.inj hps).symm σ hσ)
 have hc := of_decide_eq_false hc
 rw [if_neg hc] at hps
 obtain ⟨s, hs⟩ : ∃ s, ssub t a e = some s := by
  cases hz : ssub t a e with
  | none => rw [hz] at hps; cases hps
  | some s => exact ⟨s, rfl⟩
 rw [hs] at hps
 have hps : (match stepR m i cl s with
    | none => none
    | some (.inl f) => some (.inl f)
    | some (.inr cl') => lofL m t K (w64 (i + 1)) (w64 (e + 1)) cl') = some goal := hps
 refine Ht.sk (seqH.n (Ht.sq (Ht.rg hxn (Ops.sg 3 3 ?_))))
 refine Ops.on 4 (fun h0 e0 => str_sub (T := T) h0 9 t s (some a) (some e) hs (by kernel_rfl)) ?_
 refine Ops.sg 1 5 (Ops.dn (seqH.n (Ht.sq (Ht.rg hxn (Ops.sg 3 3 (Ops.dn (seqH.n ?_)))))))
 refine Ht.forget [0, 2, 3, 4, 5, 6, 8] (Ht.st (σ' := Sm 97 [(0, .v (.str t)), (2, .ptr 0 0), (3, .ptr 1 0), (4, .ptr 2 0), (5, dI i), (6, dI (w64 (e + 1))), (8, .v (.str s))] G) (by kernel_rfl) ?_)
 have hcll : cl.length ≤ 1000000 := by have := hb.1; omega
 have hcl2 : ∀ c ∈ cl, c.fItems.length ≤ 1000000 := fun c hc => by have := hb.2 c hc; omega
 unfold stepR at hps
 obtain ⟨ic, hic⟩ : ∃ b, isCls s = some b := by
  cases hz : isCls s with
  | none => rw [hz] at hps; cases hps
  | some b => exact ⟨b, rfl⟩
 rw [hic] at hps
 have hfin : ∀ (z : ByteArray) (b : Bool), ssub s 0 6 = some z → (z.toList == clsB.toList) = b → decide ((s.size : Int) ≥ 6) = true → isCls s = some b := fun z b h1 h2 h3 => by
  unfold isCls
  rw [if_pos (of_decide_eq_true h3), h1, ← h2]
 have hcls : ic = true → ∀ {Q : Post}, (∀ cl' cd' G' σ, lofL m t K (w64 (i + 1)) (w64 (e + 1)) cl' = some goal → InvP cl' cd' G' → Bnd (j + 1) cl' → Abs.forget KS σ = S15 t i (w64 (e + 1)) G' → Q (.exit 1) σ) →
   Ht False Tryz.prog A14 (Sm 97 [(0, .v (.str t)), (2, .ptr 0 0), (3, .ptr 1 0), (4, .ptr 2 0), (5, dI i), (6, dI (w64 (e + 1))), (8, .v (.str s))] G) Q := by
  intro hi Q hQ
  subst hi
  obtain ⟨nm, hnm⟩ : ∃ z, ssub s 6 s.size = some z := by
   cases hz : ssub s 6 s.size with
   | none => simp only [hz] at hps; cases hps
   | some z => exact ⟨z, rfl⟩
  simp only [hnm] at hps
  exact class15 n hnm hI hcll fun cd' G' σ hI' hσ => hQ _ _ _ _ hps hI' (hb.cls nm) hσ
 have hitm : ic = false → ∀ {Q : Post}, (∀ f, goal = .inl f → ∀ σ, Fin14 ⟨[]⟩ f σ → Q .ret σ) → (∀ cl' cd' G' σ, lofL m t K (w64 (i + 1)) (w64 (e + 1)) cl' = some goal → InvP cl' cd' G' → Bnd (j + 1) cl' → Abs.forget KS σ = S15 t i (w64 (e + 1)) G' → Q .normal σ) →
   Ht False Tryz.prog R15 (Sm 97 [(0, .v (.str t)), (2, .ptr 0 0), (3, .ptr 1 0), (4, .ptr 2 0), (5, dI i), (6, dI (w64 (e + 1))), (8, .v (.str s))] G) Q := by
  intro hi Q hQ1 hQ2
  subst hi
  obtain ⟨y, ok, hf⟩ : ∃ y ok, f32 m s = some (y, ok) := by
   cases h : f32 m s with
   | none => simp only [h] at hps; cases hps
   | some p => exact ⟨p.1, p.2, rfl⟩
  simp only [hf] at hps
  refine item15 n m hn hf hI hcll hcl2 (fun ho σ hσ => ?_) (fun hok init c hcl cd' G' σ hI' hσ => ?_)
  ·refine hQ1 ⟨11, i⟩ ?_ σ hσ
   cases ok with
   | false => exact (Option.some.inj hps).symm
   | true =>
    rcases ho with ho | ho
    ·cases ho
    ·subst ho
     exact (Option.some.inj hps).symm
  ·subst hok
   subst hcl
   have hps : lofL m t K (w64 (i + 1)) (w64 (e + 1)) (addI (init ++ [c]) y) = some goal := by cases init <;> exact hps
   rw [addI_app] at hps
   exact hQ2 _ _ _ _ hps hI' (hb.item y) hσ
 refine Ht.sq (Ht.sq ?_)
 by_cases h6 : (s.size : Int) ≥ 6
 ·have hd : decide ((s.size : Int) ≥ 6) = true := decide_eq_true h6
  obtain ⟨z, hz⟩ : ∃ z, ssub s 0 6 = some z := by
   cases hz : ssub s 0 6 with
   | none => unfold isCls at hic; rw [if_pos h6, hz] at hic; cases hic
   | some z => exact ⟨z, rfl⟩
  cases hb2 : (z.toList == clsB.toList) with
  | true =>
   have hic2 : ic = true := by rw [hfin z true hz hb2 hd] at hic; exact (Option.some.inj hic).symm
   refine Ht.rg hxn (Ops.sg 2 2 ?_)
   refine Ops.on 3 (fun h0 e0 => bsub (x := decide ((s.size : Int) ≥ 6)) (b := true) hd h0) ?_
   refine Ops.sg 2 5 ?_
   refine Ops.on 6 (fun h0 e0 => str_sub (T := T) h0 9 s z none (some 6) hz (by kernel_rfl)) ?_
   refine Ops.on 7 (fun h0 e0 => bsub (x := z.toList == clsB.toList) (b := true) hb2 h0) ?_
   refine Ops.sg 1 8 (Ops.dn (seqH.n ?_))
   refine Ht.cond true (by kernel_rfl) (by kernel_rfl) (fun _ => ?_) (fun hc => nomatch hc)
   refine Ht.forget [0, 2, 3, 4, 5, 6, 8] (Ht.st (σ' := Sm 97 [(0, .v (.str t)), (2, .ptr 0 0), (3, .ptr 1 0), (4, .ptr 2 0), (5, dI i), (6, dI (w64 (e + 1))), (8, .v (.str s))] G) (by kernel_rfl) ?_)
   refine hcls hic2 fun cl' cd' G' σ hps' hI' hb' hσ => ?_
   exact next15 n m (by omega) hps' hI' hb' hσ
  | false =>
   have hic2 : ic = false := by rw [hfin z false hz hb2 hd] at hic; exact (Option.some.inj hic).symm
   refine Ht.rg hxn (Ops.sg 2 2 ?_)
   refine Ops.on 3 (fun h0 e0 => bsub (x := decide ((s.size : Int) ≥ 6)) (b := true) hd h0) ?_
   refine Ops.sg 2 5 ?_
   refine Ops.on 6 (fun h0 e0 => str_sub (T := T) h0 9 s z none (some 6) hz (by kernel_rfl)) ?_
   refine Ops.on 7 (fun h0 e0 => bsub (x := z.toList == clsB.toList) (b := false) hb2 h0) ?_
   refine Ops.sg 1 8 (Ops.dn (seqH.n ?_))
   refine Ht.cond false (by kernel_rfl) (by kernel_rfl) (fun hc => nomatch hc) (fun _ => ?_)
   refine Ht.sk (seqH.n ?_)
   refine Ht.forget [0, 2, 3, 4, 5, 6, 8] (Ht.st (σ' := Sm 97 [(0, .v (.str t)), (2, .ptr 0 0), (3, .ptr 1 0), (4, .ptr 2 0), (5, dI i), (6, dI (w64 (e + 1))), (8, .v (.str s))] G) (by kernel_rfl) ?_)
   refine hitm hic2 (fun f hf σ hσ => hret f hf σ hσ) fun cl' cd' G' σ hps' hI' hb' hσ => ?_
   exact next15 n m (by omega) hps' hI' hb' hσ
 ·have hd : decide ((s.size : Int) ≥ 6) = false := decide_eq_false h6
  have hic2 : ic = false := by unfold isCls at hic; rw [if_neg h6] at hic; exact (Option.some.inj hic).symm
  refine Ht.rg hxn (Ops.sg 2 2 ?_)
  refine Ops.on 3 (fun h0 e0 => bsub (x := decide ((s.size : Int) ≥ 6)) (b := false) hd h0) ?_
  refine Ops.sg 5 8 (Ops.dn (seqH.n ?_))
  refine Ht.cond false (by kernel_rfl) (by kernel_rfl) (fun hc => nomatch hc) (fun _ => ?_)
  refine Ht.sk (seqH.n ?_)
  refine Ht.forget [0, 2, 3, 4, 5, 6, 8] (Ht.st (σ' := Sm 97 [(0, .v (.str t)), (2, .ptr 0 0), (3, .ptr 1 0), (4, .ptr 2 0), (5, dI i), (6, dI (w64 (e + 1))), (8, .v (.str s))] G) (by kernel_rfl) ?_)
  refine hitm hic2 (fun f hf σ hσ => hret f hf σ hσ) fun cl' cd' G' σ hps' hI' hb' hσ => ?_
  exact next15 n m (by omega) hps' hI' hb' hσ
theorem lof15 (n m : Nat) (hn : m + 6 ≤ n) (s : ByteArray) (o : S23 × S26) (h : f15 m s = some o) :
  Ht False Tryz.prog (bodyOf Tryz.prog 15) (startIn Tryz.prog 15 [.v (.str s)] []) (fun e σ => (e = .normal ∨ e = .ret) ∧ ∃ d, resultsD T σ (resOf Tryz.prog 15) = some d ∧ frz σ.heap 15 d = some (.tuple [e23 o.1, e26 o.2])) := by
 have hxn := hxT n
 rw [res15]
 unfold f15 at h
 show Ht False Tryz.prog C15 _ _
 refine Ht.sq (Ht.rg hxn (Ops.sg 2 2 (Ops.dn (seqH.n (Ht.sq (Ht.sq (Ht.rg hxn (Ops.sg 3 3 (Ops.dn (seqH.n ?_))))))))))
 refine Ht.cond (decide ((s.size : Int) > 4000)) (by kernel_rfl) (by kernel_rfl) (fun hc => ?_) (fun hc => ?_)
 ·have hc := of_decide_eq_true hc
  rw [if_pos hc] at h
  cases h
  refine Ht.sq (Ht.rg hxn (Ops.sg 1 1 ?_))
  refine Ops.on 2 (fun h0 e0 => call_ok (E' := E) (h := h0) (by kernel_rfl) (Args.v (vI 1) (eI 1) (by kernel_rfl) (Args.v (vI (-1)) (eI (-1)) (by kernel_rfl) Args.nil)) (ok18 m 1 (-1) ⟨1, -1⟩ rfl n (by omega))) ?_
  refine Ops.sg 2 4 (Ops.dn (seqH.n (Ht.rt ?_)))
  exact ⟨.inr rfl, finR (a := 1) (b := -1) (by kernel_rfl) (by kernel_rfl) (by kernel_rfl) (by kernel_rfl)⟩
 ·have hc := of_decide_eq_false hc
  rw [if_neg hc] at h
  obtain ⟨goal, hg⟩ : ∃ g, lofL m s 5000 0 0 [] = some g := by
   cases hz : lofL m s 5000 0 0 [] with
   | none => rw [hz] at h; cases h
   | some g => exact ⟨g, rfl⟩
  rw [hg] at h
  refine Ht.sk (seqH.n (Ht.sq (Ht.rg hxn (Ops.sg 1 1 (Ops.dn (seqH.n (Ht.sq (Ht.rg hxn (Ops.sg 1 1 (Ops.dn (seqH.n (Ht.sq (Ht.sq (Ht.rg hxn (Ops.sg 1 1 (Ops.dn (seqH.n (Ht.bk 0 ?_))))))))))))))))))
  refine Ht.forget KS (Ht.st (σ' := S15 s 0 0 [cN, c00, cN]) (by kernel_rfl) ?_)
  refine loop15 n m hn (goal := goal) (fun f hf σ hσ => ?_) (fun cl cd G σ hcl hI hσ => ?_) ⟨rfl, rfl, rfl, .nil⟩ hg
  ·subst hf
   have h : some ((⟨[]⟩ : S23), f) = some o := h
   cases h
   exact ⟨.inr rfl, hσ⟩
  ·subst hcl
   have h : (match f7 m ⟨cl⟩ with
    | none => none
    | some f => if f.fCode = 0 ∧ f.fIndex = 0 then some ((⟨cl⟩ : S23), (⟨0, 0⟩ : S26)) else some ((⟨[]⟩ : S23), f)) = some o := h
   obtain ⟨f, hf⟩ : ∃ f, f7 m ⟨cl⟩ = some f := by
    cases hz : f7 m ⟨cl⟩ with
    | none => rw [hz] at h; cases h
    | some f => exact ⟨f, rfl⟩
   rw [hf] at h
   have h : (if f.fCode = 0 ∧ f.fIndex = 0 then some ((⟨cl⟩ : S23), (⟨0, 0⟩ : S26)) else some ((⟨[]⟩ : S23), f)) = some o := h
   refine blkH.x (seqH.n ?_)
   refine Ht.forget [2, 3, 4] (Ht.st hσ ?_)
   refine tail15 n m hn hI f hf (fun hz σ hσ => ?_) (fun hz σ hσ => ?_)
   ·rw [if_pos hz] at h
    cases h
    exact ⟨.inr rfl, hσ⟩
   ·rw [if_neg hz] at h
    cases h
    exact ⟨.inr rfl, hσ⟩
end Go.Abs.Xq
