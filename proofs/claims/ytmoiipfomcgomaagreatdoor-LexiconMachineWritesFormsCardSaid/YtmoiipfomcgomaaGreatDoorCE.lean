import Derived.Test.YtmoiipfomcgomaaGreatDoorWF1c
import Derived.Test.YtmoiipfomcgomaaGreatDoorAbsTO
import Derived.Test.YtmoiipfomcgomaaGreatDoorAbsRw
import Derived.Test.YtmoiipfomcgomaaGreatDoorAbsHC
import Derived.Test.YtmoiipfomcgomaaGreatDoorShelf
import Derived.Shelf.SlSortCmp.NoneTotal
import Derived.Test.YtmoiipfomcgomaaGreatDoorSL
import Derived.Test.YtmoiipfomcgomaaGreatDoorAbsHT
namespace Go.Abs
open Go.Sort Go.Proofs
set_option linter.unusedVariables false
set_option maxRecDepth 100000
def keyA (x : S61) : Int × Int × Int × Int × Int := (x.fFrom, x.fIn, x.fOut, x.fTo, x.fWeight)
def cmpA (x y : S61) : Int := prodC cmpI (prodC cmpI (prodC cmpI (prodC cmpI cmpI))) (keyA x) (keyA y)
theorem toA : TO cmpA := (toI.prod (toI.prod (toI.prod (toI.prod toI)))).comap keyA fun x y h => by
 cases x; cases y
 simp only [keyA, Prod.mk.injEq] at h
 obtain ⟨rfl, rfl, rfl, rfl, rfl⟩ := h
 rfl
theorem cmpA_orr (x y : S61) : cmpA x y = orr [cmpI x.fFrom y.fFrom, cmpI x.fIn y.fIn, cmpI x.fOut y.fOut, cmpI x.fTo y.fTo, cmpI x.fWeight y.fWeight] := by
 simp only [cmpA, keyA, prodC, lexC, orr]
 repeat' split
 all_goals first | rfl | omega | (simp_all; done)
theorem f44_eq (m : Nat) (x y : Int) : f44 m x y = some (cmpI x y) := by
 have h : ∀ z : Int, f68 m z = some false := fun z => by unfold f68; simp
 unfold f44 cmpI
 simp only [h, bnd, cnd]
 by_cases h1 : x < y
 ·simp [h1]
 ·by_cases h2 : x > y <;> simp [h1, h2]
theorem f43_eq (m : Nat) (l : List Int) (hl : l.length < m) (hb : l.length ≤ 9223372036854775807) : f43 m l = some (orr l) := by
 have e : iter (fun (y : Int) => f43_B1 m l y) m 0 = landed (fun (_ : Unit) (i : Int) => i) l.length (scan (fun _ (_ : Unit) (x : Int) => if x ≠ 0 then some (.inl x) else some (.inr ())) 0 () l) := by
  refine iter_scan l (fun (y : Int) => f43_B1 m l y) (fun (_ : Unit) (i : Int) => i) _ (fun u i hi => ?_) m 0 () (by omega) (by omega)
  unfold f43_B1
  refine body_turn rfl fun x hx => ?_
  have hil := lt_of_getElem? hx
  have hw : w64 ((i : Int) + 1) = (i : Int) + 1 := w64_id ⟨by omega, by omega⟩
  by_cases h : x = 0
  ·simp [h, hw]
  ·have : (x != 0) = true := by simpa using h
   simp [h, this]
 unfold f43
 rw [e, scan_orr]
 by_cases h : orr l = 0
 ·simp [h, landed]
 ·simp [h, landed]
theorem f20_eq (m : Nat) (x y : S61) (hm : 6 ≤ m) : f20 m x y = some (cmpA x y) := by
 unfold f20
 rw [f44_eq, bnd_some', f44_eq, bnd_some', f44_eq, bnd_some', f44_eq, bnd_some', f44_eq, bnd_some', f43_eq m _ (by simp; omega) (by simp), bnd_some', cmpA_orr]
theorem cmp13 : CmpOk Proofs.Tryz.prog 20 e61 cmpA := by
 intro x y S w us hrel hs hg
 obtain ⟨d, h', h1, h2⟩ := ok20c 6 x y (cmpA x y) (f20_eq _ x y (by omega)) 20 (by omega)
 refine ((pureCalls (good0 (DR := True)) (xs := [e61 x, e61 y]) h1 h2).2 S w us hrel hs hg).mono ?_
 rintro e w' ⟨v, S', rfl, hE, _, hR⟩
 cases hR
 exact ⟨rfl, S', hE⟩
def decA : V → Option S61
 | .agg [.int .i64 a, .int .i64 b, .int .i64 c, .int .i64 d, .int .i64 e] => some ⟨a, b, c, d, e⟩
 | _ => none
theorem decA_spec {v : V} {a : S61} (h : decA v = some a) : v = e61 a := by
 unfold decA at h
 split at h
 ·cases h; rfl
 ·cases h
theorem decA_e (a : S61) : decA (e61 a) = some a := rfl
theorem allM_decA (l : List S61) : allM decA (l.map e61) = some l := by
 have := allM_map (f := decA) (k := e61) (r := fun s => s) l fun s _ => decA_e s
 rw [List.map_id'] at this
 exact this
theorem is19 : Is Proofs.Tryz.prog 19 := ⟨Proofs.Tryz.f19, Proofs.Tryz.func19, by kernel_rfl, by kernel_rfl⟩
def sortA : List D → List AObj → Option (D × List AObj) := sortFnF 5 20 decA e61 (srtC cmpA)
theorem sort19 : DOk False Proofs.Tryz.prog 19 sortA :=
 sortFn_sound is19 cmpA cmp13 toA.swo (fun _ _ h => decA_spec h) (by decide) (fun a => ⟨_, rfl, rfl, rfl⟩)
  (fun enc' cf' blk off cap d w hk h1 hO hc hH hb hs => AnyQ.slices_SortFunc Tryz.laysSF 5 (fun w => by kernel_rfl) (fun w => by kernel_rfl) enc' hk h1 cf' hO 20 #[] blk off cap d w (enters_of Proofs.Tryz.func20 (by kernel_rfl) rfl) hc hH hb hs)
  (fun p cap fv w => AnyF.slices_SortFunc_none Tryz.laysSF p cap fv w) (srtC_is toA)
def srt19 (xs : List S61) : Option (List S61) := if xs.length < 4611686018427387904 then some (srtC cmpA xs) else none
theorem srtA_length (l : List S61) : (srtC cmpA l).length = l.length := (srtC_perm l).length_eq
theorem row_sort19 (h : List AObj) (q : Nat) (xs zs : List S61) (hx : srt19 xs = some zs) (hq : h[q]? = some (rowO 5 (xs.map e61))) : sortA [rowF .nil q (xs.map e61), .v (.fn 20)] h = some (U, h.set q (rowO 5 (zs.map e61))) := by
 unfold srt19 at hx
 split at hx <;> try (cases hx; done)
 rename_i hbig
 cases hx
 cases xs with
 | nil =>
  have : srtC cmpA [] = [] := List.eq_nil_of_length_eq_zero (by rw [srtA_length]; rfl)
  rw [this]
  simp only [List.map_nil, rowF, rowO, sortA, sortFnF] at hq ⊢
  rw [set_same hq]; rfl
 | cons x r =>
  have h1 : rowF .nil q ((x :: r).map e61) = .osl q 0 ((x :: r).map e61).length false := rfl
  have h2 : rowO 5 ((x :: r).map e61) = .row 5 ((x :: r).map e61) := rfl
  rw [h2] at hq
  rw [h1]
  simp only [sortA, sortFnF, hq]
  rw [if_pos ⟨trivial, trivial, trivial, by simp, by rw [List.length_map]; exact hbig⟩, allM_decA, Option.map_some]
  have h3 : rowO 5 ((srtC cmpA (x :: r)).map e61) = .row 5 ((srtC cmpA (x :: r)).map e61) := by
   cases hs : srtC cmpA (x :: r) with
   | nil => have := srtA_length (x :: r); rw [hs] at this; simp at this
   | cons a b => rfl
  rw [h3]
theorem srt19_row {xs zs : List S61} (q : Nat) (hx : srt19 xs = some zs) : rowF .nil q (xs.map e61) = rowF .nil q (zs.map e61) := by
 unfold srt19 at hx
 split at hx <;> try (cases hx; done)
 cases hx
 have hl := srtA_length xs
 cases xs with
 | nil => have : srtC cmpA [] = [] := List.eq_nil_of_length_eq_zero hl; rw [this]
 | cons x r =>
  cases hs : srtC cmpA (x :: r) with
  | nil => rw [hs] at hl; simp at hl
  | cons a b =>
   rw [hs] at hl
   simp only [List.length_cons] at hl
   simp only [List.map_cons, rowF, List.length_cons, List.length_map, hl]
def eqA (x y : S61) : Bool := (x.fFrom == y.fFrom) && ((x.fTo == y.fTo) && ((x.fIn == y.fIn) && ((x.fOut == y.fOut) && ((x.fWeight == y.fWeight) && true))))
theorem eqA_iff {x y : S61} : eqA x y = true ↔ x = y := by
 cases x; cases y
 simp [eqA]
noncomputable def XC (n : Nat) : Cx := ⟨{ E with rowM := true }, run Proofs.Tryz.prog E n, ⟨fun _ => [], fun _ => [], fun _ => []⟩, [], n⟩
theorem hxC (n : Nat) : Hx False Proofs.Tryz.prog (XC n) := ⟨good.mixed, good.types, run_sound good n⟩
def Sm (n : Nat) (l : List (Nat × D)) (h : List AObj) : St := ⟨(List.range n).map fun i => (l.lookup i).getD .undef, h⟩
theorem seqH.x {DR : Prop} {P : Program} {b : Code} {Q : Post} {id : Nat} {σ : St} (h : Q (.exit id) σ) : seqH DR P b Q (.exit id) σ := h
theorem seqH.r {DR : Prop} {P : Program} {b : Code} {Q : Post} {σ : St} (h : Q .ret σ) : seqH DR P b Q .ret σ := h
theorem blkH.r {id : Nat} {Q : Post} {σ : St} (h : Q .ret σ) : blkH id Q .ret σ := h
theorem blkH.n {id : Nat} {Q : Post} {σ : St} (h : Q .normal σ) : blkH id Q .normal σ := h
theorem Ht.st {DR : Prop} {P : Program} {c : Code} {σ σ' : St} {Q : Post} (e : σ = σ') (h : Ht DR P c σ' Q) : Ht DR P c σ Q := by rw [e]; exact h
theorem ldc {i : TI} {h : List AObj} {r off : Nat} {cs : List D} {d : D} (hr : h[r]? = some (.cells cs)) (hd : (cut cs off i.size).bind (mkOf i.kind.isAgg) = some d) : (loadD i h (.ptr r off)).map (·, h) = some (d, h) := by
 simp only [loadD, hr, hd, Option.map_some]
theorem stc {i : TI} {h : List AObj} {r off : Nat} {cs cs' : List D} {x : D} (hr : h[r]? = some (.cells cs)) (hs : (x.solid && x.cells.length == i.size) = true) (hc : splice cs off x.cells = some cs') : (storeD i h (.ptr r off) x).map (U, ·) = some (U, h.set r (.cells cs')) := by
 simp only [storeD, hs, if_true, hr, hc, Option.map_some]
theorem ixo {h : List AObj} {q off N j : Nat} {es : List V} {i : Int} (hq : h[q]? = some (.row 5 es)) (hi : i = (j : Int)) (hj : j < N) : (indexAddrH T h 27 (D.unt (.osl q off N false)) (dI i)).map (·, h) = some (.eptr q (off + j) 0, h) := by
 subst hi
 have hn : natOf (dI (j : Int)) = some j := by simp [natOf]
 have hT : T 27 = some ti27 := rfl
 have hk : ti27.kind = .slice 62 := rfl
 simp only [D.unt, indexAddrH, hT, hk, hn, if_pos hj, show sizeT T 62 = some 5 from rfl, hq, if_true, Option.map_some]
theorem lde {h : List AObj} {q j : Nat} {R : List S61} {a : S61} (hq : h[q]? = some (.row 5 (R.map e61))) (ha : R[j]? = some a) : (loadD ti62 h (.eptr q j 0)).map (·, h) = some (.v (e61 a), h) := by
 have hx : (R.map e61)[j]? = some (e61 a) := by rw [List.getElem?_map, ha]; rfl
 simp only [loadD, hq, hx]
 rfl
theorem ste {h : List AObj} {q j : Nat} {R : List S61} {a b : S61} (hq : h[q]? = some (.row 5 (R.map e61))) (hb : R[j]? = some b) : (storeD ti62 h (.eptr q j 0) (.v (e61 a))).map (U, ·) = some (U, h.set q (.row 5 ((R.set j a).map e61))) := by
 have hx : (R.map e61)[j]? = some (e61 b) := by rw [List.getElem?_map, hb]; rfl
 have h1 : ((D.v (e61 a)).solid && (D.v (e61 a)).cells.length == ti62.size) = true := rfl
 have h2 : storeV (e61 b) (e61 a) 0 = some (e61 a) := rfl
 have h3 : ((e61 a).cells.length == 5 && (e61 a).solid) = true := rfl
 simp only [storeD, h1, if_true, hq, hx, h2, h3, Option.map_some, List.map_set]
theorem slo {h : List AObj} {q N k : Nat} {es : List V} (hq : h[q]? = some (.row 5 es)) (hk : k < N) : (sliceD T h 27 (D.unt (.osl q 0 N false)) (some (dI (k : Int))) none none).map (·, h) = some (.osl q k (N - k) false, h) := by
 have hn : natOr 0 (some (dI (k : Int))) = some k := by simp [natOr, natOf]
 have hs : shapeOk h q 5 = true := by simp [shapeOk, hq]
 have hT : T 27 = some ti27 := rfl
 have hkd : ti27.kind = .slice 62 := rfl
 have hne : (k == N) = false := by simp; omega
 simp only [D.unt, sliceD, hT, hkd, boundsD, hn, show natOr N none = some N from rfl]
 rw [if_pos ⟨by omega, Nat.le_refl _⟩]
 simp only [show sizeT T 62 = some 5 from rfl, hs, if_true, hne, Bool.false_eq_true, if_false, Option.isNone_none, Bool.not_false, Bool.and_self, Bool.true_or, Nat.zero_add, Option.map_some, fullTo, Bool.false_and]
theorem slh {h : List AObj} {q N k : Nat} {es : List V} (hq : h[q]? = some (.row 5 es)) (h0 : 0 < k) (hk : k ≤ N) : (sliceD T h 27 (D.unt (.osl q 0 N false)) none (some (dI (k : Int))) none).map (·, h) = some (.osl q 0 k false, h) := by
 have hn : natOr N (some (dI (k : Int))) = some k := by simp [natOr, natOf]
 have hs : shapeOk h q 5 = true := by simp [shapeOk, hq]
 have hT : T 27 = some ti27 := rfl
 have hkd : ti27.kind = .slice 62 := rfl
 have hne : (0 == k) = false := by simp; omega
 simp only [D.unt, sliceD, hT, hkd, boundsD, hn, show natOr 0 none = some 0 from rfl]
 rw [if_pos ⟨by omega, hk⟩]
 simp only [show sizeT T 62 = some 5 from rfl, hs, if_true, hne, Bool.false_eq_true, if_false, Option.isNone_none, Bool.not_false, Bool.and_self, Bool.true_or, Nat.add_zero, Nat.sub_zero, Option.map_some, fullTo, Bool.false_and]
theorem clr {h : List AObj} {q k m : Nat} {R : List S61} (hq : h[q]? = some (.row 5 (R.map e61))) (h0 : 0 < m) (hl : k + m = R.length) : (clearD T 27 h (.osl q k m false)).map (U, ·) = some (U, h.set q (.row 5 ((R.take k).map e61))) := by
 have hT : T 27 = some ti27 := rfl
 have hT2 : T 62 = some ti62 := rfl
 have hkd : ti27.kind = .slice 62 := rfl
 simp only [clearD, hT, hkd, hq, hT2]
 rw [if_pos ⟨rfl, rfl, h0, by rw [List.length_map]; exact hl⟩, Option.map_some, List.map_take]
def goC : S61 → List S61 → List S61
 | _, [] => []
 | p, y :: r => if eqA y p = true then goC y r else y :: goC y r
def compactL : List S61 → List S61
 | [] => []
 | x :: r => x :: goC x r
theorem compactL_short {l : List S61} (h : l.length < 2) : compactL l = l := by
 match l, h with
 | [], _ => rfl
 | [x], _ => rfl
theorem goC_eq {p y : S61} {r : List S61} (h : eqA y p = true) : goC p (y :: r) = goC y r := by simp [goC, h]
theorem goC_ne {p y : S61} {r : List S61} (h : eqA y p = false) : goC p (y :: r) = y :: goC y r := by simp [goC, h]
noncomputable def C21 : Code := bodyOf Proofs.Tryz.prog 21
abbrev sD (q N : Nat) : D := .osl q 0 N false
abbrev hR (H : List AObj) (q : Nat) (R : List S61) : List AObj := H.set q (.row 5 (R.map e61))
theorem hR_get {H : List AObj} {q : Nat} (hq : q < H.length) (R : List S61) : (hR H q R)[q]? = some (.row 5 (R.map e61)) := List.getElem?_set_self hq
theorem hR_set {H : List AObj} {q : Nat} (R R' : List S61) : (hR H q R).set q (.row 5 (R'.map e61)) = hR H q R' := by simp only [hR, List.set_set]
def CQ (H : List AObj) (q : Nat) (l : List S61) : Post := fun e σ => (e = .normal ∨ e = .ret) ∧ ∃ d, resultsD T σ (resOf Proofs.Tryz.prog 21) = some d ∧ d = .osl q 0 (compactL l).length false ∧ σ.heap = hR H q (compactL l)
theorem CQ.of {H : List AObj} {q : Nat} {l R : List S61} {σ : St} {m : Nat} (h4 : σ.tmps.getD 2 .undef = .osl q 0 m false) (hm : R.length = m) (hh : σ.heap = hR H q R) (hR : R = compactL l) : CQ H q l .ret σ := by
 have hr : resOf Proofs.Tryz.prog 21 = [.tmp 2] := by kernel_rfl
 subst hR
 refine ⟨.inr rfl, .osl q 0 m false, ?_, by rw [hm], hh⟩
 rw [hr]
 simp only [resultsD, allM, resultD, h4]
noncomputable abbrev M21 : Code := cL (cR (cL (cR (cL (cR (cL (cL (cR (cL (cL (cR (cL (cR (cR C21))))))))))))))
abbrev S1 (q N : Nat) (k : Int) (h : List AObj) : St := Sm 61 [(0, sD q N), (3, dI k)] h
abbrev S2 (q N k0 : Nat) (k k2 : Int) (h : List AObj) : St := Sm 61 [(0, sD q N), (3, dI k), (4, .osl q k0 (N - k0) false), (5, dI k2)] h
theorem compact2 (n : Nat) (H : List AObj) (q : Nat) (hq : q < H.length) (l : List S61) (hl : l.length ≤ 1000000) (k0 : Nat) (h0 : 0 < k0) (hk : k0 < l.length) {Q : Post}
  (hQ : ∀ (k : Nat) R σ, 0 < k → k < l.length → R.length = l.length → R.take k = compactL l → Abs.forget [0, 3] σ = Sm 61 [(0, sD q l.length), (3, dI (k : Int))] (hR H q R) → Q (.exit 2) σ)
  (x0 : S61) (hx0 : l[k0]? = some x0) (h1 : l.take k0 ++ goC x0 (l.drop (k0 + 1)) = compactL l) :
  Ht False Proofs.Tryz.prog M21 (S2 q l.length k0 k0 1 (hR H q l)) Q := by
 refine Ht.loop (fun m σ => ∃ (k k2 : Nat) (R : List S61) (x : S61), m = l.length - k2 ∧ 1 ≤ k2 ∧ k0 + k2 ≤ l.length ∧ k0 ≤ k ∧ k + 1 ≤ k0 + k2 ∧ R.length = l.length ∧ R.drop (k0 + k2 - 1) = l.drop (k0 + k2 - 1) ∧ l[k0 + k2 - 1]? = some x ∧ R.take k ++ goC x (l.drop (k0 + k2)) = compactL l ∧
   Abs.forget [0, 3, 4, 5] σ = S2 q l.length k0 k k2 (hR H q R)) (l.length - 1) (by kernel_rfl) ⟨k0, 1, l, x0, rfl, Nat.le_refl _, by omega, Nat.le_refl _, by omega, rfl, rfl, hx0, h1, by kernel_rfl⟩ ?_
 rintro m σ ⟨k, k2, R, x, rfl, a1, a2, a3, a4, a5, a6, a7, a8, hσ⟩
 refine Ht.forget [0, 3, 4, 5] (Ht.st hσ ?_)
 clear hσ
 refine Ht.sq (Ht.sq (Ht.rg (hxC n) (Ops.sg 4 4 (Ops.dn (seqH.n ?_)))))
 refine Ht.cond (decide ((k2 : Int) < ((l.length - k0 : Nat) : Int))) (by kernel_rfl) (by kernel_rfl) (fun hc => ?_) (fun hc => ?_)
 case refine_2 =>
  have hc := of_decide_eq_false hc
  refine Ht.exit (id := 2) (by kernel_rfl) ?_
  show Q (.exit 2) _
  have hd : l.drop (k0 + k2) = [] := List.drop_eq_nil_of_le (by omega)
  rw [hd] at a8
  refine hQ k R _ (by omega) (by omega) a5 (by simpa [goC] using a8) (by kernel_rfl)
 have hc := of_decide_eq_true hc
 have hlt : k0 + k2 < l.length := by omega
 obtain ⟨y, hy⟩ : ∃ y, l[k0 + k2]? = some y := ⟨_, List.getElem?_eq_getElem hlt⟩
 have hget : ∀ j, k0 + k2 - 1 ≤ j → R[j]? = l[j]? := by
  intro j hj
  have := congrArg (fun z => z[j - (k0 + k2 - 1)]?) a6
  simp only [List.getElem?_drop] at this
  rw [show k0 + k2 - 1 + (j - (k0 + k2 - 1)) = j by omega] at this
  exact this
 have hRy : R[k0 + k2]? = some y := by rw [hget _ (by omega)]; exact hy
 have hRx : R[k0 + (k2 - 1)]? = some x := by rw [show k0 + (k2 - 1) = k0 + k2 - 1 by omega, hget _ (Nat.le_refl _)]; exact a7
 have hdrop : l.drop (k0 + k2) = y :: l.drop (k0 + k2 + 1) := by
  rw [List.drop_eq_getElem_cons hlt]
  rw [List.getElem?_eq_getElem hlt] at hy
  rw [Option.some.inj hy]
 have hw : w64 ((k2 : Int) - 1) = ((k2 - 1 : Nat) : Int) := by rw [w64_id ⟨by omega, by omega⟩]; omega
 have hw2 : w64 ((k2 : Int) + 1) = ((k2 + 1 : Nat) : Int) := by rw [w64_id ⟨by omega, by omega⟩]; omega
 have hw3 : w64 ((k : Int) + 1) = ((k + 1 : Nat) : Int) := by rw [w64_id ⟨by omega, by omega⟩]; omega
 refine Ht.sk (seqH.n (Ht.sq (Ht.bk 3 (Ht.sq (Ht.rg (hxC n) (Ops.sg 2 2 ?_))))))
 refine Ops.on 3 (fun h0 e0 => (ixo (h := h0) (q := q) (off := k0) (N := l.length - k0) (j := k2) (i := (k2 : Int)) (hq_of (g := hR H q R) (e0.trans (by kernel_rfl)) (hR_get hq R)) rfl (by omega))) ?_
 refine Ops.on 4 (fun h0 e0 => (lde (h := h0) (q := q) (j := k0 + k2) (hq_of (g := hR H q R) (e0.trans (by kernel_rfl)) (hR_get hq R)) hRy)) ?_
 refine Ops.sg 3 7 ?_
 refine Ops.on 8 (fun h0 e0 => (ixo (h := h0) (q := q) (off := k0) (N := l.length - k0) (j := k2 - 1) (i := w64 ((k2 : Int) - 1)) (hq_of (g := hR H q R) (e0.trans (by kernel_rfl)) (hR_get hq R)) hw (by omega))) ?_
 refine Ops.on 9 (fun h0 e0 => (lde (h := h0) (q := q) (j := k0 + (k2 - 1)) (hq_of (g := hR H q R) (e0.trans (by kernel_rfl)) (hR_get hq R)) hRx)) ?_
 refine Ops.sg 1 10 (Ops.dn (seqH.n ?_))
 refine Ht.cond (!(eqA y x)) (by kernel_rfl) (by kernel_rfl) (fun hc1 => ?_) (fun hc1 => ?_)
 ·have hne : eqA y x = false := by simpa using hc1
  rw [hdrop, goC_ne hne] at a8
  obtain ⟨b, hb⟩ : ∃ b, R[k]? = some b := ⟨_, List.getElem?_eq_getElem (by omega)⟩
  refine Ht.sq (Ht.rg (hxC n) (Ops.sg 4 4 ?_))
  refine Ops.on 5 (fun h0 e0 => (ixo (h := h0) (q := q) (off := k0) (N := l.length - k0) (j := k2) (i := (k2 : Int)) (hq_of (g := hR H q R) (e0.trans (by kernel_rfl)) (hR_get hq R)) rfl (by omega))) ?_
  refine Ops.on 6 (fun h0 e0 => (lde (h := h0) (q := q) (j := k0 + k2) (hq_of (g := hR H q R) (e0.trans (by kernel_rfl)) (hR_get hq R)) hRy)) ?_
  refine Ops.on 7 (fun h0 e0 => (ixo (h := h0) (q := q) (off := 0) (N := l.length) (j := k) (i := (k : Int)) (hq_of (g := hR H q R) (e0.trans (by kernel_rfl)) (hR_get hq R)) rfl (by omega))) ?_
  refine Ops.on 8 (fun h0 e0 => (ste (h := h0) (q := q) (j := 0 + k) (R := R) (a := y) (b := b) (hq_of (g := hR H q R) (e0.trans (by kernel_rfl)) (hR_get hq R)) (by rw [Nat.zero_add]; exact hb))) ?_
  refine Ops.dn (seqH.n (Ht.rg (hxC n) (Ops.sg 3 3 (Ops.dn (blkH.n (seqH.n (Ht.rg (hxC n) (Ops.sg 3 3 (Ops.dn ?_)))))))))
  refine ⟨l.length - (k2 + 1), by omega, k + 1, k2 + 1, R.set k y, y, rfl, by omega, by omega, by omega, by omega, by rw [List.length_set]; exact a5, ?_, by rw [show k0 + (k2 + 1) - 1 = k0 + k2 by omega]; exact hy, ?_, ?_⟩
  ·rw [List.drop_set_of_lt (by omega)]
   have := congrArg (List.drop 1) a6
   rw [List.drop_drop, List.drop_drop] at this
   rw [show k0 + (k2 + 1) - 1 = k0 + k2 - 1 + 1 by omega]
   exact this
  ·have ht1 : (R.set k y).take (k + 1) = R.take k ++ [y] := by
    rw [List.take_add_one, List.take_set_of_le (Nat.le_refl _), List.getElem?_set_self (by omega)]; rfl
   rw [ht1, ← a8, show k0 + (k2 + 1) = k0 + k2 + 1 by omega]
   simp
  ·have e : ∀ (a b : Int) (h : List AObj), a = ((k + 1 : Nat) : Int) → b = ((k2 + 1 : Nat) : Int) → h = hR H q (R.set k y) → S2 q l.length k0 a b h = S2 q l.length k0 ((k + 1 : Nat) : Int) ((k2 + 1 : Nat) : Int) (hR H q (R.set k y)) := fun a b h ha hb hh => by rw [ha, hb, hh]
   refine Eq.trans ?_ (e (w64 ((k : Int) + 1)) (w64 ((k2 : Int) + 1)) ((hR H q R).set q (.row 5 ((R.set (0 + k) y).map e61))) hw3 hw2 (by rw [Nat.zero_add]; exact hR_set R _))
   kernel_rfl
 ·have heq : eqA y x = true := by simpa using hc1
  rw [hdrop, goC_eq heq] at a8
  refine Ht.sk (blkH.n (seqH.n (Ht.rg (hxC n) (Ops.sg 3 3 (Ops.dn ?_)))))
  refine ⟨l.length - (k2 + 1), by omega, k, k2 + 1, R, y, rfl, by omega, by omega, a3, by omega, a5, ?_, by rw [show k0 + (k2 + 1) - 1 = k0 + k2 by omega]; exact hy, by rw [show k0 + (k2 + 1) = k0 + k2 + 1 by omega]; exact a8, ?_⟩
  ·have := congrArg (List.drop 1) a6
   rw [List.drop_drop, List.drop_drop] at this
   rw [show k0 + (k2 + 1) - 1 = k0 + k2 - 1 + 1 by omega]
   exact this
  ·have e : ∀ (b : Int), b = ((k2 + 1 : Nat) : Int) → S2 q l.length k0 k b (hR H q R) = S2 q l.length k0 k ((k2 + 1 : Nat) : Int) (hR H q R) := fun b hb => by rw [hb]
   refine Eq.trans ?_ (e (w64 ((k2 : Int) + 1)) hw2)
   kernel_rfl
theorem compact1 (n : Nat) (H : List AObj) (q : Nat) (hq : q < H.length) (l : List S61) (hl : l.length ≤ 1000000) (h2 : 2 ≤ l.length) :
  Ht False Proofs.Tryz.prog (cR (cL (cR (cR C21)))) (S1 q l.length 1 (hR H q l)) (seqH False Proofs.Tryz.prog (cR (cR (cR C21))) (CQ H q l)) := by
 refine Ht.bk 0 ?_
 obtain ⟨x0, hx0⟩ : ∃ x, l[0]? = some x := ⟨_, List.getElem?_eq_getElem (by omega)⟩
 refine Ht.loop (fun m σ => ∃ (k : Nat) (x : S61), m = l.length - k ∧ 1 ≤ k ∧ k ≤ l.length ∧ l[k - 1]? = some x ∧ l.take k ++ goC x (l.drop k) = compactL l ∧ Abs.forget [0, 3] σ = S1 q l.length k (hR H q l)) (l.length - 1) (by kernel_rfl) ⟨1, x0, rfl, Nat.le_refl _, by omega, hx0, ?_, by kernel_rfl⟩ ?_
 ·cases l with
  | nil => simp at hx0
  | cons a r => simp at hx0; subst hx0; simp [compactL]
 rintro m σ ⟨k, x, rfl, a1, a2, a3, a4, hσ⟩
 refine Ht.forget [0, 3] (Ht.st hσ ?_)
 clear hσ
 refine Ht.sq (Ht.sq (Ht.rg (hxC n) (Ops.sg 4 4 (Ops.dn (seqH.n ?_)))))
 refine Ht.cond (decide ((k : Int) < (l.length : Int))) (by kernel_rfl) (by kernel_rfl) (fun hc => ?_) (fun hc => ?_)
 case refine_2 =>
  have hc := of_decide_eq_false hc
  have hk : k = l.length := by omega
  refine Ht.exit (id := 0) (by kernel_rfl) (seqH.x ?_)
  show Ht False Proofs.Tryz.prog (cR (cR (cR C21))) _ (CQ H q l)
  have hd : l.drop k = [] := List.drop_eq_nil_of_le (by omega)
  rw [hd, hk, List.take_length] at a4
  have hc4 : l = compactL l := by simpa [goC] using a4
  refine Ht.sq (Ht.rg (hxC n) (Ops.sg 2 2 (Ops.dn (seqH.n (Ht.rt ?_)))))
  exact CQ.of (R := l) (m := l.length) (by kernel_rfl) rfl (by kernel_rfl) hc4
 have hc := of_decide_eq_true hc
 have hlt : k < l.length := by omega
 obtain ⟨y, hy⟩ : ∃ y, l[k]? = some y := ⟨_, List.getElem?_eq_getElem hlt⟩
 have hdrop : l.drop k = y :: l.drop (k + 1) := by
  rw [List.drop_eq_getElem_cons hlt]
  rw [List.getElem?_eq_getElem hlt] at hy
  rw [Option.some.inj hy]
 have htake : l.take (k + 1) = l.take k ++ [y] := by
  rw [List.take_add_one, hy]; rfl
 have hw : w64 ((k : Int) - 1) = ((k - 1 : Nat) : Int) := by rw [w64_id ⟨by omega, by omega⟩]; omega
 have hw3 : w64 ((k : Int) + 1) = ((k + 1 : Nat) : Int) := by rw [w64_id ⟨by omega, by omega⟩]; omega
 refine Ht.sk (seqH.n (Ht.sq (Ht.bk 1 (Ht.sq (Ht.rg (hxC n) (Ops.sg 2 2 ?_))))))
 refine Ops.on 3 (fun h0 e0 => (ixo (h := h0) (q := q) (off := 0) (N := l.length) (j := k) (i := (k : Int)) (hq_of (g := hR H q l) (e0.trans (by kernel_rfl)) (hR_get hq l)) rfl (by omega))) ?_
 refine Ops.on 4 (fun h0 e0 => (lde (h := h0) (q := q) (j := 0 + k) (hq_of (g := hR H q l) (e0.trans (by kernel_rfl)) (hR_get hq l)) (by rw [Nat.zero_add]; exact hy))) ?_
 refine Ops.sg 3 7 ?_
 refine Ops.on 8 (fun h0 e0 => (ixo (h := h0) (q := q) (off := 0) (N := l.length) (j := k - 1) (i := w64 ((k : Int) - 1)) (hq_of (g := hR H q l) (e0.trans (by kernel_rfl)) (hR_get hq l)) hw (by omega))) ?_
 refine Ops.on 9 (fun h0 e0 => (lde (h := h0) (q := q) (j := 0 + (k - 1)) (hq_of (g := hR H q l) (e0.trans (by kernel_rfl)) (hR_get hq l)) (by rw [Nat.zero_add]; exact a3))) ?_
 refine Ops.sg 1 10 (Ops.dn (seqH.n ?_))
 refine Ht.cond (eqA y x) (by kernel_rfl) (by kernel_rfl) (fun hc1 => ?_) (fun hc1 => ?_)
 case refine_2 =>
  have hne : eqA y x = false := by simpa using hc1
  rw [hdrop, goC_ne hne] at a4
  refine Ht.sk (blkH.n (seqH.n (Ht.rg (hxC n) (Ops.sg 3 3 (Ops.dn ?_)))))
  refine ⟨l.length - (k + 1), by omega, k + 1, y, rfl, by omega, by omega, by rw [Nat.add_sub_cancel]; exact hy, by rw [htake, ← a4]; simp, ?_⟩
  have e : ∀ (b : Int), b = ((k + 1 : Nat) : Int) → S1 q l.length b (hR H q l) = S1 q l.length ((k + 1 : Nat) : Int) (hR H q l) := fun b hb => by rw [hb]
  refine Eq.trans ?_ (e (w64 ((k : Int) + 1)) hw3)
  kernel_rfl
 have heq : eqA y x = true := by simpa using hc1
 rw [hdrop, goC_eq heq] at a4
 refine Ht.sq (Ht.rg (hxC n) (Ops.sg 2 2 ?_))
 refine Ops.on 3 (fun h0 e0 => (slo (h := h0) (q := q) (N := l.length) (k := k) (hq_of (g := hR H q l) (e0.trans (by kernel_rfl)) (hR_get hq l)) hlt)) ?_
 refine Ops.sg 1 4 (Ops.dn (seqH.n (Ht.sq (Ht.sq (Ht.rg (hxC n) (Ops.sg 1 1 (Ops.dn (seqH.n (Ht.bk 2 ?_)))))))))
 refine Ht.forget [0, 3, 4, 5] (Ht.st (σ' := S2 q l.length k k 1 (hR H q l)) (by kernel_rfl) ?_)
 refine compact2 n H q hq l hl k (by omega) hlt (fun k' R σ b1 b2 b3 b4 hσ => ?_) y hy a4
 refine blkH.x (seqH.n ?_)
 refine Ht.forget [0, 3] (Ht.st hσ ?_)
 clear hσ
 refine Ht.sq (Ht.rg (hxC n) (Ops.sg 2 2 ?_))
 refine Ops.on 3 (fun h0 e0 => (slo (h := h0) (q := q) (N := l.length) (k := k') (hq_of (g := hR H q R) (e0.trans (by kernel_rfl)) (hR_get hq R)) b2)) ?_
 refine Ops.on 4 (fun h0 e0 => (clr (h := h0) (q := q) (k := k') (m := l.length - k') (R := R) (hq_of (g := hR H q R) (e0.trans (by kernel_rfl)) (hR_get hq R)) (by omega) (by omega))) ?_
 refine Ops.dn (seqH.n ?_)
 refine Ht.forget [0, 3] (Ht.st (σ' := Sm 61 [(0, sD q l.length), (3, dI (k' : Int))] ((hR H q R).set q (.row 5 ((R.take k').map e61)))) (by kernel_rfl) ?_)
 rw [hR_set]
 refine Ht.sq (Ht.rg (hxC n) (Ops.sg 2 2 ?_))
 refine Ops.on 3 (fun h0 e0 => (slh (h := h0) (q := q) (N := l.length) (k := k') (hq_of (g := hR H q (R.take k')) (e0.trans (by kernel_rfl)) (hR_get hq (R.take k'))) b1 (by omega))) ?_
 refine Ops.sg 1 4 (Ops.dn (seqH.n (Ht.rt (blkH.r ?_))))
 show CQ H q l .ret _
 exact CQ.of (R := R.take k') (m := k') (by kernel_rfl) (by rw [List.length_take]; omega) (by kernel_rfl) b4
theorem call21 (n : Nat) (H : List AObj) (q : Nat) (l : List S61) (hl : l.length ≤ 1000000) (hH : H[q]? = some (.row 5 (l.map e61))) :
  CallT False Proofs.Tryz.prog 21 [sD q l.length] H fun d h' => d = sD q (compactL l).length ∧ h' = hR H q (compactL l) := by
 have hq := lt_of_getElem? hH
 have hHl : hR H q l = H := by
  show H.set q _ = H
  exact set_same hH
 refine callT_of_ht (c := C21) (T := T) Proofs.Tryz.func21 (by kernel_rfl) T_ok ?_
 refine Ht.mono (Q := CQ H q l) ?_ fun e σ ⟨h1, d, h2, h3, h4⟩ => ⟨h1, d, h2, h3, h4⟩
 show Ht False Proofs.Tryz.prog C21 _ _
 refine Ht.sq (Ht.rg (hxC n) (Ops.sg 1 1 (Ops.dn (seqH.n (Ht.sq (Ht.sq (Ht.rg (hxC n) (Ops.sg 3 3 (Ops.dn (seqH.n ?_))))))))))
 refine Ht.cond (decide ((l.length : Int) < 2)) (by kernel_rfl) (by kernel_rfl) (fun hc => ?_) (fun hc => ?_)
 ·have hc := of_decide_eq_true hc
  refine Ht.sq (Ht.rg (hxC n) (Ops.sg 2 2 (Ops.dn (seqH.n (Ht.rt (seqH.r ?_))))))
  refine CQ.of (R := l) (m := l.length) (by kernel_rfl) rfl ?_ (compactL_short (by omega)).symm
  rw [hHl]; kernel_rfl
 have hc := of_decide_eq_false hc
 refine Ht.sk (seqH.n (Ht.sq (Ht.sq (Ht.rg (hxC n) (Ops.sg 1 1 (Ops.dn (seqH.n ?_)))))))
 refine Ht.forget [0, 3] (Ht.st (σ' := S1 q l.length 1 H) (by kernel_rfl) ?_)
 rw [← hHl]
 have := compact1 n H q hq l hl (by omega)
 rw [hHl] at this ⊢
 exact this
theorem is21 : Is Proofs.Tryz.prog 21 := ⟨Proofs.Tryz.f21, Proofs.Tryz.func21, by kernel_rfl, by kernel_rfl⟩
theorem call21n (n : Nat) (H : List AObj) : CallT False Proofs.Tryz.prog 21 [.v (.sl .nil [])] H fun d h' => d = .v (.sl .nil []) ∧ h' = H := by
 have hr : resOf Proofs.Tryz.prog 21 = [.tmp 2] := by kernel_rfl
 refine callT_of_ht (c := C21) (T := T) Proofs.Tryz.func21 (by kernel_rfl) T_ok ?_
 show Ht False Proofs.Tryz.prog C21 _ _
 refine Ht.sq (Ht.rg (hxC n) (Ops.sg 1 1 (Ops.dn (seqH.n (Ht.sq (Ht.sq (Ht.rg (hxC n) (Ops.sg 3 3 (Ops.dn (seqH.n ?_))))))))))
 refine Ht.cond true (by kernel_rfl) (by kernel_rfl) (fun _ => ?_) (fun hc => nomatch hc)
 refine Ht.sq (Ht.rg (hxC n) (Ops.sg 2 2 (Ops.dn (seqH.n (Ht.rt (seqH.r ?_))))))
 refine ⟨.inr rfl, .v (.sl .nil []), ?_, rfl, by kernel_rfl⟩
 have fin : ∀ σ : St, σ.tmps.getD 2 .undef = .v (.sl .nil []) → resultsD T σ (resOf Proofs.Tryz.prog 21) = some (.v (.sl .nil [])) := fun σ h4 => by
  rw [hr]; simp only [resultsD, allM, resultD, h4]
 exact fin _ (by kernel_rfl)
def compactA : List D → List AObj → Option (D × List AObj)
 | [.osl r 0 len false], h => match h[r]? with
  | some (.row k es) => if k = 5 ∧ len = es.length ∧ len ≤ 1000000 then (allM decA es).map fun l => (.osl r 0 (compactL l).length false, h.set r (.row 5 ((compactL l).map e61))) else none
  | _ => none
 | [.v (.sl .nil [])], h => some (.v (.sl .nil []), h)
 | _, _ => none
theorem compact21 : DOk False Proofs.Tryz.prog 21 compactA := by
 refine ⟨is21, fun ds h d h' hd S β w vs hrel hi => ?_⟩
 unfold compactA at hd
 split at hd
 ·rename_i h0 r len
  split at hd
  case h_2 => cases hd
  rename_i k es hes
  split at hd
  case isFalse => cases hd
  rename_i hc
  obtain ⟨rfl, rfl, hb⟩ := hc
  obtain ⟨l, hl, he⟩ := Option.map_eq_some_iff.1 hd
  obtain ⟨rfl, rfl⟩ := Prod.mk.inj he
  have hes' := allM_dec (fun _ _ h => decA_spec h) hl
  subst hes'
  rw [List.length_map] at hrel hb
  refine (call21 0 h r l hb hes S β w vs hrel hi).mono ?_
  rintro e w' ⟨d, h', v, S', β', ⟨rfl, rfl⟩, rfl, h1, h2, h3⟩
  exact ⟨v, S', β', rfl, h1, h2, h3⟩
 ·rename_i h0
  cases hd
  refine (call21n 0 h S β w vs hrel hi).mono ?_
  rintro e w' ⟨d, h', v, S', β', ⟨rfl, rfl⟩, rfl, h1, h2, h3⟩
  exact ⟨v, S', β', rfl, h1, h2, h3⟩
 ·cases hd
def cmpct21 (xs : List S61) : Option (List S61) := if xs.length ≤ 1000000 then some (compactL xs) else none
theorem row_compact21 (h : List AObj) (q : Nat) (xs zs : List S61) (hx : cmpct21 xs = some zs) (hq : h[q]? = some (rowO 5 (xs.map e61))) : compactA [rowF .nil q (xs.map e61)] h = some (rowF .nil q (zs.map e61), h.set q (rowO 5 (zs.map e61))) := by
 unfold cmpct21 at hx
 split at hx <;> try (cases hx; done)
 rename_i hbig
 cases hx
 cases xs with
 | nil =>
  simp only [List.map_nil, rowF, rowO, compactA, compactL] at hq ⊢
  rw [set_same hq]
 | cons x r =>
  have h1 : rowF .nil q ((x :: r).map e61) = .osl q 0 ((x :: r).map e61).length false := rfl
  have h2 : rowO 5 ((x :: r).map e61) = .row 5 ((x :: r).map e61) := rfl
  rw [h2] at hq
  rw [h1]
  simp only [compactA, hq]
  rw [if_pos ⟨trivial, trivial, by rw [List.length_map]; exact hbig⟩, allM_decA, Option.map_some]
  simp only [compactL, List.map_cons, rowF, rowO, List.length_cons, List.length_map]
end Go.Abs
