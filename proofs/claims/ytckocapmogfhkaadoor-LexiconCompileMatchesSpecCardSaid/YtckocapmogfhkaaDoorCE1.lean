import Derived.Test.YtckocapmogfhkaaDoorCE0
import Derived.Test.YtckocapmogfhkaaDoorAbsHT
namespace Go.Abs
open Go.Sort Go.Proofs
set_option linter.unusedVariables false
set_option maxRecDepth 100000
def eqA (x y : S40) : Bool := (x.fFrom == y.fFrom) && ((x.fTo == y.fTo) && ((x.fIn == y.fIn) && ((x.fOut == y.fOut) && ((x.fWeight == y.fWeight) && true))))
noncomputable def XC (n : Nat) : Cx := ⟨{ E with rowM := true }, run Proofs.Tryd.prog E n, ⟨fun _ => [], fun _ => [], fun _ => []⟩, [], n⟩
theorem hxC (n : Nat) : Hx False Proofs.Tryd.prog (XC n) := ⟨good.mixed, good.types, run_sound good n⟩
def Sm (n : Nat) (l : List (Nat × D)) (h : List AObj) : St := ⟨(List.range n).map fun i => (l.lookup i).getD .undef, h⟩
theorem seqH.x {DR : Prop} {P : Program} {b : Code} {Q : Post} {id : Nat} {σ : St} (h : Q (.exit id) σ) : seqH DR P b Q (.exit id) σ := h
theorem seqH.r {DR : Prop} {P : Program} {b : Code} {Q : Post} {σ : St} (h : Q .ret σ) : seqH DR P b Q .ret σ := h
theorem blkH.r {id : Nat} {Q : Post} {σ : St} (h : Q .ret σ) : blkH id Q .ret σ := h
theorem blkH.n {id : Nat} {Q : Post} {σ : St} (h : Q .normal σ) : blkH id Q .normal σ := h
theorem Ht.st {DR : Prop} {P : Program} {c : Code} {σ σ' : St} {Q : Post} (e : σ = σ') (h : Ht DR P c σ' Q) : Ht DR P c σ Q := by rw [e]; exact h
theorem ixo {h : List AObj} {q off N j : Nat} {es : List V} {i : Int} (hq : h[q]? = some (.row 5 es)) (hi : i = (j : Int)) (hj : j < N) : (indexAddrH T h 25 (D.unt (.osl q off N false)) (dI i)).map (·, h) = some (.eptr q (off + j) 0, h) := by
 subst hi
 have hn : natOf (dI (j : Int)) = some j := by simp [natOf]
 have hT : T 25 = some ti25 := rfl
 have hk : ti25.kind = .slice 41 := rfl
 simp only [D.unt, indexAddrH, hT, hk, hn, if_pos hj, show sizeT T 41 = some 5 from rfl, hq, if_true, Option.map_some]
theorem lde {h : List AObj} {q j : Nat} {R : List S40} {a : S40} (hq : h[q]? = some (.row 5 (R.map e40))) (ha : R[j]? = some a) : (loadD ti41 h (.eptr q j 0)).map (·, h) = some (.v (e40 a), h) := by
 have hx : (R.map e40)[j]? = some (e40 a) := by rw [List.getElem?_map, ha]; rfl
 simp only [loadD, hq, hx]
 rfl
theorem ste {h : List AObj} {q j : Nat} {R : List S40} {a b : S40} (hq : h[q]? = some (.row 5 (R.map e40))) (hb : R[j]? = some b) : (storeD ti41 h (.eptr q j 0) (.v (e40 a))).map (U, ·) = some (U, h.set q (.row 5 ((R.set j a).map e40))) := by
 have hx : (R.map e40)[j]? = some (e40 b) := by rw [List.getElem?_map, hb]; rfl
 have h1 : ((D.v (e40 a)).solid && (D.v (e40 a)).cells.length == ti41.size) = true := rfl
 have h2 : storeV (e40 b) (e40 a) 0 = some (e40 a) := rfl
 have h3 : ((e40 a).cells.length == 5 && (e40 a).solid) = true := rfl
 simp only [storeD, h1, if_true, hq, hx, h2, h3, Option.map_some, List.map_set]
theorem slo {h : List AObj} {q N k : Nat} {es : List V} (hq : h[q]? = some (.row 5 es)) (hk : k < N) : (sliceD T h 25 (D.unt (.osl q 0 N false)) (some (dI (k : Int))) none none).map (·, h) = some (.osl q k (N - k) false, h) := by
 have hn : natOr 0 (some (dI (k : Int))) = some k := by simp [natOr, natOf]
 have hs : shapeOk h q 5 = true := by simp [shapeOk, hq]
 have hT : T 25 = some ti25 := rfl
 have hkd : ti25.kind = .slice 41 := rfl
 have hne : (k == N) = false := by simp; omega
 simp only [D.unt, sliceD, hT, hkd, boundsD, hn, show natOr N none = some N from rfl]
 rw [if_pos ⟨by omega, Nat.le_refl _⟩]
 simp only [show sizeT T 41 = some 5 from rfl, hs, if_true, hne, Bool.false_eq_true, if_false, Option.isNone_none, Bool.not_false, Bool.and_self, Bool.true_or, Nat.zero_add, Option.map_some, fullTo, Bool.false_and]
theorem slh {h : List AObj} {q N k : Nat} {es : List V} (hq : h[q]? = some (.row 5 es)) (h0 : 0 < k) (hk : k ≤ N) : (sliceD T h 25 (D.unt (.osl q 0 N false)) none (some (dI (k : Int))) none).map (·, h) = some (.osl q 0 k false, h) := by
 have hn : natOr N (some (dI (k : Int))) = some k := by simp [natOr, natOf]
 have hs : shapeOk h q 5 = true := by simp [shapeOk, hq]
 have hT : T 25 = some ti25 := rfl
 have hkd : ti25.kind = .slice 41 := rfl
 have hne : (0 == k) = false := by simp; omega
 simp only [D.unt, sliceD, hT, hkd, boundsD, hn, show natOr 0 none = some 0 from rfl]
 rw [if_pos ⟨by omega, hk⟩]
 simp only [show sizeT T 41 = some 5 from rfl, hs, if_true, hne, Bool.false_eq_true, if_false, Option.isNone_none, Bool.not_false, Bool.and_self, Bool.true_or, Nat.add_zero, Nat.sub_zero, Option.map_some, fullTo, Bool.false_and]
theorem clr {h : List AObj} {q k m : Nat} {R : List S40} (hq : h[q]? = some (.row 5 (R.map e40))) (h0 : 0 < m) (hl : k + m = R.length) : (clearD T 25 h (.osl q k m false)).map (U, ·) = some (U, h.set q (.row 5 ((R.take k).map e40))) := by
 have hT : T 25 = some ti25 := rfl
 have hT2 : T 41 = some ti41 := rfl
 have hkd : ti25.kind = .slice 41 := rfl
 simp only [clearD, hT, hkd, hq, hT2]
 rw [if_pos ⟨rfl, rfl, h0, by rw [List.length_map]; exact hl⟩, Option.map_some, List.map_take]
def goC : S40 → List S40 → List S40
 | _, [] => []
 | p, y :: r => if eqA y p = true then goC y r else y :: goC y r
def compactL : List S40 → List S40
 | [] => []
 | x :: r => x :: goC x r
theorem compactL_short {l : List S40} (h : l.length < 2) : compactL l = l := by
 match l, h with
 | [], _ => rfl
 | [x], _ => rfl
theorem goC_eq {p y : S40} {r : List S40} (h : eqA y p = true) : goC p (y :: r) = goC y r := by simp [goC, h]
theorem goC_ne {p y : S40} {r : List S40} (h : eqA y p = false) : goC p (y :: r) = y :: goC y r := by simp [goC, h]
noncomputable def C14 : Code := bodyOf Proofs.Tryd.prog 14
abbrev sD (q N : Nat) : D := .osl q 0 N false
abbrev hR (H : List AObj) (q : Nat) (R : List S40) : List AObj := H.set q (.row 5 (R.map e40))
theorem hR_get {H : List AObj} {q : Nat} (hq : q < H.length) (R : List S40) : (hR H q R)[q]? = some (.row 5 (R.map e40)) := List.getElem?_set_self hq
theorem hR_set {H : List AObj} {q : Nat} (R R' : List S40) : (hR H q R).set q (.row 5 (R'.map e40)) = hR H q R' := by simp only [hR, List.set_set]
def CQ (H : List AObj) (q : Nat) (l : List S40) : Post := fun e σ => (e = .normal ∨ e = .ret) ∧ ∃ d, resultsD T σ (resOf Proofs.Tryd.prog 14) = some d ∧ d = .osl q 0 (compactL l).length false ∧ σ.heap = hR H q (compactL l)
theorem CQ.of {H : List AObj} {q : Nat} {l R : List S40} {σ : St} {m : Nat} (h4 : σ.tmps.getD 2 .undef = .osl q 0 m false) (hm : R.length = m) (hh : σ.heap = hR H q R) (hR : R = compactL l) : CQ H q l .ret σ := by
 have hr : resOf Proofs.Tryd.prog 14 = [.tmp 2] := by kernel_rfl
 subst hR
 refine ⟨.inr rfl, .osl q 0 m false, ?_, by rw [hm], hh⟩
 rw [hr]
 simp only [resultsD, allM, resultD, h4]
noncomputable abbrev M14 : Code := cL (cR (cL (cR (cL (cR (cL (cL (cR (cL (cL (cR (cL (cR (cR C14))))))))))))))
abbrev S1 (q N : Nat) (k : Int) (h : List AObj) : St := Sm 61 [(0, sD q N), (3, dI k)] h
abbrev S2 (q N k0 : Nat) (k k2 : Int) (h : List AObj) : St := Sm 61 [(0, sD q N), (3, dI k), (4, .osl q k0 (N - k0) false), (5, dI k2)] h
theorem compact2 (n : Nat) (H : List AObj) (q : Nat) (hq : q < H.length) (l : List S40) (hl : l.length ≤ 1000000) (k0 : Nat) (h0 : 0 < k0) (hk : k0 < l.length) {Q : Post}
  (hQ : ∀ (k : Nat) R σ, 0 < k → k < l.length → R.length = l.length → R.take k = compactL l → Abs.forget [0, 3] σ = Sm 61 [(0, sD q l.length), (3, dI (k : Int))] (hR H q R) → Q (.exit 2) σ)
  (x0 : S40) (hx0 : l[k0]? = some x0) (h1 : l.take k0 ++ goC x0 (l.drop (k0 + 1)) = compactL l) :
  Ht False Proofs.Tryd.prog M14 (S2 q l.length k0 k0 1 (hR H q l)) Q := by
 refine Ht.loop (fun m σ => ∃ (k k2 : Nat) (R : List S40) (x : S40), m = l.length - k2 ∧ 1 ≤ k2 ∧ k0 + k2 ≤ l.length ∧ k0 ≤ k ∧ k + 1 ≤ k0 + k2 ∧ R.length = l.length ∧ R.drop (k0 + k2 - 1) = l.drop (k0 + k2 - 1) ∧ l[k0 + k2 - 1]? = some x ∧ R.take k ++ goC x (l.drop (k0 + k2)) = compactL l ∧
   Abs.forget [0, 3, 4, 5] σ = S2 q l.length k0 k k2 (hR H q R)) (l.length - 1) (by kernel_rfl) ⟨k0, 1, l, x0, rfl, Nat.le_refl _, by omega, Nat.le_refl _, by omega, rfl, rfl, hx0, h1, by kernel_rfl⟩ ?_
 rintro m σ ⟨k, k2, R, x, rfl, a1, a2, a3, a4, a5, a6, a7, a8, hσ⟩
 refine Ht.forget [0, 3, 4, 5] (Ht.st hσ ?_)
 clear hσ
 refine Ht.seq (by kernel_rfl) ?_
 refine Ht.seq (by kernel_rfl) ?_
 refine Ht.region (hxC n) (by kernel_rfl) ?_
 refine Ops.seg' 4 4 (by kernel_rfl) ?_
 refine Ops.done (by kernel_rfl) ?_
 refine seqH.n ?_
 refine Ht.cond (decide ((k2 : Int) < ((l.length - k0 : Nat) : Int))) (by kernel_rfl) (by kernel_rfl) (fun hc => ?_) (fun hc => ?_)
 case refine_2 =>
  have hc := of_decide_eq_false hc
  refine Ht.exit (id := 2) (by kernel_rfl) ?_
  show Q (.exit 2) _
  have hd : l.drop (k0 + k2) = [] := List.drop_eq_nil_of_le (by omega)
  rw [hd] at a8
  refine hQ k R _ (by omega) (by omega) a5 (by simpa [goC] using a8) (by kernel_rfl)
 have hc := of_decide_eq_true hc
 have hlt : k0 + k2 < l.length := by omega
 obtain ⟨y, hy⟩ : ∃ y, l[k0 + k2]? = some y := ⟨_, List.getElem?_eq_getElem hlt⟩
 have hget : ∀ j, k0 + k2 - 1 ≤ j → R[j]? = l[j]? := by
  intro j hj
  have := congrArg (fun z => z[j - (k0 + k2 - 1)]?) a6
  simp only [List.getElem?_drop] at this
  rw [show k0 + k2 - 1 + (j - (k0 + k2 - 1)) = j by omega] at this
  exact this
 have hRy : R[k0 + k2]? = some y := by rw [hget _ (by omega)]; exact hy
 have hRx : R[k0 + (k2 - 1)]? = some x := by rw [show k0 + (k2 - 1) = k0 + k2 - 1 by omega, hget _ (Nat.le_refl _)]; exact a7
 have hdrop : l.drop (k0 + k2) = y :: l.drop (k0 + k2 + 1) := by
  rw [List.drop_eq_getElem_cons hlt]
  rw [List.getElem?_eq_getElem hlt] at hy
  rw [Option.some.inj hy]
 have hw : w64 ((k2 : Int) - 1) = ((k2 - 1 : Nat) : Int) := by rw [w64_id ⟨by omega, by omega⟩]; omega
 have hw2 : w64 ((k2 : Int) + 1) = ((k2 + 1 : Nat) : Int) := by rw [w64_id ⟨by omega, by omega⟩]; omega
 have hw3 : w64 ((k : Int) + 1) = ((k + 1 : Nat) : Int) := by rw [w64_id ⟨by omega, by omega⟩]; omega
 refine Ht.skip (by kernel_rfl) ?_
 refine seqH.n ?_
 refine Ht.seq (by kernel_rfl) ?_
 refine Ht.block 3 (by kernel_rfl) ?_
 refine Ht.seq (by kernel_rfl) ?_
 refine Ht.region (hxC n) (by kernel_rfl) ?_
 refine Ops.seg' 2 2 (by kernel_rfl) ?_
 refine Ops.one' 3 (fun h0 e0 => (ixo (h := h0) (q := q) (off := k0) (N := l.length - k0) (j := k2) (i := (k2 : Int)) (hq_of (g := hR H q R) (e0.trans (by kernel_rfl)) (hR_get hq R)) rfl (by omega))) (by kernel_rfl) (by kernel_rfl) ?_
 refine Ops.one' 4 (fun h0 e0 => (lde (h := h0) (q := q) (j := k0 + k2) (hq_of (g := hR H q R) (e0.trans (by kernel_rfl)) (hR_get hq R)) hRy)) (by kernel_rfl) (by kernel_rfl) ?_
 refine Ops.seg' 3 7 (by kernel_rfl) ?_
 refine Ops.one' 8 (fun h0 e0 => (ixo (h := h0) (q := q) (off := k0) (N := l.length - k0) (j := k2 - 1) (i := w64 ((k2 : Int) - 1)) (hq_of (g := hR H q R) (e0.trans (by kernel_rfl)) (hR_get hq R)) hw (by omega))) (by kernel_rfl) (by kernel_rfl) ?_
 refine Ops.one' 9 (fun h0 e0 => (lde (h := h0) (q := q) (j := k0 + (k2 - 1)) (hq_of (g := hR H q R) (e0.trans (by kernel_rfl)) (hR_get hq R)) hRx)) (by kernel_rfl) (by kernel_rfl) ?_
 refine Ops.seg' 1 10 (by kernel_rfl) ?_
 refine Ops.done (by kernel_rfl) ?_
 refine seqH.n ?_
 refine Ht.cond (!(eqA y x)) (by kernel_rfl) (by kernel_rfl) (fun hc1 => ?_) (fun hc1 => ?_)
 ·have hne : eqA y x = false := by simpa using hc1
  rw [hdrop, goC_ne hne] at a8
  obtain ⟨b, hb⟩ : ∃ b, R[k]? = some b := ⟨_, List.getElem?_eq_getElem (by omega)⟩
  refine Ht.seq (by kernel_rfl) ?_
  refine Ht.region (hxC n) (by kernel_rfl) ?_
  refine Ops.seg' 4 4 (by kernel_rfl) ?_
  refine Ops.one' 5 (fun h0 e0 => (ixo (h := h0) (q := q) (off := k0) (N := l.length - k0) (j := k2) (i := (k2 : Int)) (hq_of (g := hR H q R) (e0.trans (by kernel_rfl)) (hR_get hq R)) rfl (by omega))) (by kernel_rfl) (by kernel_rfl) ?_
  refine Ops.one' 6 (fun h0 e0 => (lde (h := h0) (q := q) (j := k0 + k2) (hq_of (g := hR H q R) (e0.trans (by kernel_rfl)) (hR_get hq R)) hRy)) (by kernel_rfl) (by kernel_rfl) ?_
  refine Ops.one' 7 (fun h0 e0 => (ixo (h := h0) (q := q) (off := 0) (N := l.length) (j := k) (i := (k : Int)) (hq_of (g := hR H q R) (e0.trans (by kernel_rfl)) (hR_get hq R)) rfl (by omega))) (by kernel_rfl) (by kernel_rfl) ?_
  refine Ops.one' 8 (fun h0 e0 => (ste (h := h0) (q := q) (j := 0 + k) (R := R) (a := y) (b := b) (hq_of (g := hR H q R) (e0.trans (by kernel_rfl)) (hR_get hq R)) (by rw [Nat.zero_add]; exact hb))) (by kernel_rfl) (by kernel_rfl) ?_
  refine Ops.done (by kernel_rfl) ?_
  refine seqH.n ?_
  refine Ht.region (hxC n) (by kernel_rfl) ?_
  refine Ops.seg' 3 3 (by kernel_rfl) ?_
  refine Ops.done (by kernel_rfl) ?_
  refine blkH.n ?_
  refine seqH.n ?_
  refine Ht.region (hxC n) (by kernel_rfl) ?_
  refine Ops.seg' 3 3 (by kernel_rfl) ?_
  refine Ops.done (by kernel_rfl) ?_
  refine ⟨l.length - (k2 + 1), by omega, k + 1, k2 + 1, R.set k y, y, rfl, by omega, by omega, by omega, by omega, by rw [List.length_set]; exact a5, ?_, by rw [show k0 + (k2 + 1) - 1 = k0 + k2 by omega]; exact hy, ?_, ?_⟩
  ·rw [List.drop_set_of_lt (by omega)]
   have := congrArg (List.drop 1) a6
   rw [List.drop_drop, List.drop_drop] at this
   rw [show k0 + (k2 + 1) - 1 = k0 + k2 - 1 + 1 by omega]
   exact this
  ·have ht1 : (R.set k y).take (k + 1) = R.take k ++ [y] := by
    rw [List.take_add_one, List.take_set_of_le (Nat.le_refl _), List.getElem?_set_self (by omega)]; rfl
   rw [ht1, ← a8, show k0 + (k2 + 1) = k0 + k2 + 1 by omega]
   simp
  ·have e : ∀ (a b : Int) (h : List AObj), a = ((k + 1 : Nat) : Int) → b = ((k2 + 1 : Nat) : Int) → h = hR H q (R.set k y) → S2 q l.length k0 a b h = S2 q l.length k0 ((k + 1 : Nat) : Int) ((k2 + 1 : Nat) : Int) (hR H q (R.set k y)) := fun a b h ha hb hh => by rw [ha, hb, hh]
   refine Eq.trans ?_ (e (w64 ((k : Int) + 1)) (w64 ((k2 : Int) + 1)) ((hR H q R).set q (.row 5 ((R.set (0 + k) y).map e40))) hw3 hw2 (by rw [Nat.zero_add]; exact hR_set R _))
   kernel_rfl
 ·have heq : eqA y x = true := by simpa using hc1
  rw [hdrop, goC_eq heq] at a8
  refine Ht.skip (by kernel_rfl) ?_
  refine blkH.n ?_
  refine seqH.n ?_
  refine Ht.region (hxC n) (by kernel_rfl) ?_
  refine Ops.seg' 3 3 (by kernel_rfl) ?_
  refine Ops.done (by kernel_rfl) ?_
  refine ⟨l.length - (k2 + 1), by omega, k, k2 + 1, R, y, rfl, by omega, by omega, a3, by omega, a5, ?_, by rw [show k0 + (k2 + 1) - 1 = k0 + k2 by omega]; exact hy, by rw [show k0 + (k2 + 1) = k0 + k2 + 1 by omega]; exact a8, ?_⟩
  ·have := congrArg (List.drop 1) a6
   rw [List.drop_drop, List.drop_drop] at this
   rw [show k0 + (k2 + 1) - 1 = k0 + k2 - 1 + 1 by omega]
   exact this
  ·have e : ∀ (b : Int), b = ((k2 + 1 : Nat) : Int) → S2 q l.length k0 k b (hR H q R) = S2 q l.length k0 k ((k2 + 1 : Nat) : Int) (hR H q R) := fun b hb => by rw [hb]
   refine Eq.trans ?_ (e (w64 ((k2 : Int) + 1)) hw2)
   kernel_rfl
theorem compact1 (n : Nat) (H : List AObj) (q : Nat) (hq : q < H.length) (l : List S40) (hl : l.length ≤ 1000000) (h2 : 2 ≤ l.length) :
  Ht False Proofs.Tryd.prog (cR (cL (cR (cR C14)))) (S1 q l.length 1 (hR H q l)) (seqH False Proofs.Tryd.prog (cR (cR (cR C14))) (CQ H q l)) := by
 refine Ht.block 0 (by kernel_rfl) ?_
 obtain ⟨x0, hx0⟩ : ∃ x, l[0]? = some x := ⟨_, List.getElem?_eq_getElem (by omega)⟩
 refine Ht.loop (fun m σ => ∃ (k : Nat) (x : S40), m = l.length - k ∧ 1 ≤ k ∧ k ≤ l.length ∧ l[k - 1]? = some x ∧ l.take k ++ goC x (l.drop k) = compactL l ∧ Abs.forget [0, 3] σ = S1 q l.length k (hR H q l)) (l.length - 1) (by kernel_rfl) ⟨1, x0, rfl, Nat.le_refl _, by omega, hx0, ?_, by kernel_rfl⟩ ?_
 ·cases l with
  | nil => simp at hx0
  | cons a r => simp at hx0; subst hx0; simp [compactL]
 rintro m σ ⟨k, x, rfl, a1, a2, a3, a4, hσ⟩
 refine Ht.forget [0, 3] (Ht.st hσ ?_)
 clear hσ
 refine Ht.seq (by kernel_rfl) ?_
 refine Ht.seq (by kernel_rfl) ?_
 refine Ht.region (hxC n) (by kernel_rfl) ?_
 refine Ops.seg' 4 4 (by kernel_rfl) ?_
 refine Ops.done (by kernel_rfl) ?_
 refine seqH.n ?_
 refine Ht.cond (decide ((k : Int) < (l.length : Int))) (by kernel_rfl) (by kernel_rfl) (fun hc => ?_) (fun hc => ?_)
 case refine_2 =>
  have hc := of_decide_eq_false hc
  have hk : k = l.length := by omega
  refine Ht.exit (id := 0) (by kernel_rfl) ?_
  refine seqH.x ?_
  show Ht False Proofs.Tryd.prog (cR (cR (cR C14))) _ (CQ H q l)
  have hd : l.drop k = [] := List.drop_eq_nil_of_le (by omega)
  rw [hd, hk, List.take_length] at a4
  have hc4 : l = compactL l := by simpa [goC] using a4
  refine Ht.seq (by kernel_rfl) ?_
  refine Ht.region (hxC n) (by kernel_rfl) ?_
  refine Ops.seg' 2 2 (by kernel_rfl) ?_
  refine Ops.done (by kernel_rfl) ?_
  refine seqH.n ?_
  refine Ht.ret (by kernel_rfl) ?_
  exact CQ.of (R := l) (m := l.length) (by kernel_rfl) rfl (by kernel_rfl) hc4
 have hc := of_decide_eq_true hc
 have hlt : k < l.length := by omega
 obtain ⟨y, hy⟩ : ∃ y, l[k]? = some y := ⟨_, List.getElem?_eq_getElem hlt⟩
 have hdrop : l.drop k = y :: l.drop (k + 1) := by
  rw [List.drop_eq_getElem_cons hlt]
  rw [List.getElem?_eq_getElem hlt] at hy
  rw [Option.some.inj hy]
 have htake : l.take (k + 1) = l.take k ++ [y] := by
  rw [List.take_add_one, hy]; rfl
 have hw : w64 ((k : Int) - 1) = ((k - 1 : Nat) : Int) := by rw [w64_id ⟨by omega, by omega⟩]; omega
 have hw3 : w64 ((k : Int) + 1) = ((k + 1 : Nat) : Int) := by rw [w64_id ⟨by omega, by omega⟩]; omega
 refine Ht.skip (by kernel_rfl) ?_
 refine seqH.n ?_
 refine Ht.seq (by kernel_rfl) ?_
 refine Ht.block 1 (by kernel_rfl) ?_
 refine Ht.seq (by kernel_rfl) ?_
 refine Ht.region (hxC n) (by kernel_rfl) ?_
 refine Ops.seg' 2 2 (by kernel_rfl) ?_
 refine Ops.one' 3 (fun h0 e0 => (ixo (h := h0) (q := q) (off := 0) (N := l.length) (j := k) (i := (k : Int)) (hq_of (g := hR H q l) (e0.trans (by kernel_rfl)) (hR_get hq l)) rfl (by omega))) (by kernel_rfl) (by kernel_rfl) ?_
 refine Ops.one' 4 (fun h0 e0 => (lde (h := h0) (q := q) (j := 0 + k) (hq_of (g := hR H q l) (e0.trans (by kernel_rfl)) (hR_get hq l)) (by rw [Nat.zero_add]; exact hy))) (by kernel_rfl) (by kernel_rfl) ?_
 refine Ops.seg' 3 7 (by kernel_rfl) ?_
 refine Ops.one' 8 (fun h0 e0 => (ixo (h := h0) (q := q) (off := 0) (N := l.length) (j := k - 1) (i := w64 ((k : Int) - 1)) (hq_of (g := hR H q l) (e0.trans (by kernel_rfl)) (hR_get hq l)) hw (by omega))) (by kernel_rfl) (by kernel_rfl) ?_
 refine Ops.one' 9 (fun h0 e0 => (lde (h := h0) (q := q) (j := 0 + (k - 1)) (hq_of (g := hR H q l) (e0.trans (by kernel_rfl)) (hR_get hq l)) (by rw [Nat.zero_add]; exact a3))) (by kernel_rfl) (by kernel_rfl) ?_
 refine Ops.seg' 1 10 (by kernel_rfl) ?_
 refine Ops.done (by kernel_rfl) ?_
 refine seqH.n ?_
 refine Ht.cond (eqA y x) (by kernel_rfl) (by kernel_rfl) (fun hc1 => ?_) (fun hc1 => ?_)
 case refine_2 =>
  have hne : eqA y x = false := by simpa using hc1
  rw [hdrop, goC_ne hne] at a4
  refine Ht.skip (by kernel_rfl) ?_
  refine blkH.n ?_
  refine seqH.n ?_
  refine Ht.region (hxC n) (by kernel_rfl) ?_
  refine Ops.seg' 3 3 (by kernel_rfl) ?_
  refine Ops.done (by kernel_rfl) ?_
  refine ⟨l.length - (k + 1), by omega, k + 1, y, rfl, by omega, by omega, by rw [Nat.add_sub_cancel]; exact hy, by rw [htake, ← a4]; simp, ?_⟩
  have e : ∀ (b : Int), b = ((k + 1 : Nat) : Int) → S1 q l.length b (hR H q l) = S1 q l.length ((k + 1 : Nat) : Int) (hR H q l) := fun b hb => by rw [hb]
  refine Eq.trans ?_ (e (w64 ((k : Int) + 1)) hw3)
  kernel_rfl
 have heq : eqA y x = true := by simpa using hc1
 rw [hdrop, goC_eq heq] at a4
 refine Ht.seq (by kernel_rfl) ?_
 refine Ht.region (hxC n) (by kernel_rfl) ?_
 refine Ops.seg' 2 2 (by kernel_rfl) ?_
 refine Ops.one' 3 (fun h0 e0 => (slo (h := h0) (q := q) (N := l.length) (k := k) (hq_of (g := hR H q l) (e0.trans (by kernel_rfl)) (hR_get hq l)) hlt)) (by kernel_rfl) (by kernel_rfl) ?_
 refine Ops.seg' 1 4 (by kernel_rfl) ?_
 refine Ops.done (by kernel_rfl) ?_
 refine seqH.n ?_
 refine Ht.seq (by kernel_rfl) ?_
 refine Ht.seq (by kernel_rfl) ?_
 refine Ht.region (hxC n) (by kernel_rfl) ?_
 refine Ops.seg' 1 1 (by kernel_rfl) ?_
 refine Ops.done (by kernel_rfl) ?_
 refine seqH.n ?_
 refine Ht.block 2 (by kernel_rfl) ?_
 refine Ht.forget [0, 3, 4, 5] (Ht.st (σ' := S2 q l.length k k 1 (hR H q l)) (by kernel_rfl) ?_)
 refine compact2 n H q hq l hl k (by omega) hlt (fun k' R σ b1 b2 b3 b4 hσ => ?_) y hy a4
 refine blkH.x ?_
 refine seqH.n ?_
 refine Ht.forget [0, 3] (Ht.st hσ ?_)
 clear hσ
 refine Ht.seq (by kernel_rfl) ?_
 refine Ht.region (hxC n) (by kernel_rfl) ?_
 refine Ops.seg' 2 2 (by kernel_rfl) ?_
 refine Ops.one' 3 (fun h0 e0 => (slo (h := h0) (q := q) (N := l.length) (k := k') (hq_of (g := hR H q R) (e0.trans (by kernel_rfl)) (hR_get hq R)) b2)) (by kernel_rfl) (by kernel_rfl) ?_
 refine Ops.one' 4 (fun h0 e0 => (clr (h := h0) (q := q) (k := k') (m := l.length - k') (R := R) (hq_of (g := hR H q R) (e0.trans (by kernel_rfl)) (hR_get hq R)) (by omega) (by omega))) (by kernel_rfl) (by kernel_rfl) ?_
 refine Ops.done (by kernel_rfl) ?_
 refine seqH.n ?_
 refine Ht.forget [0, 3] (Ht.st (σ' := Sm 61 [(0, sD q l.length), (3, dI (k' : Int))] ((hR H q R).set q (.row 5 ((R.take k').map e40)))) (by kernel_rfl) ?_)
 rw [hR_set]
 refine Ht.seq (by kernel_rfl) ?_
 refine Ht.region (hxC n) (by kernel_rfl) ?_
 refine Ops.seg' 2 2 (by kernel_rfl) ?_
 refine Ops.one' 3 (fun h0 e0 => (slh (h := h0) (q := q) (N := l.length) (k := k') (hq_of (g := hR H q (R.take k')) (e0.trans (by kernel_rfl)) (hR_get hq (R.take k'))) b1 (by omega))) (by kernel_rfl) (by kernel_rfl) ?_
 refine Ops.seg' 1 4 (by kernel_rfl) ?_
 refine Ops.done (by kernel_rfl) ?_
 refine seqH.n ?_
 refine Ht.ret (by kernel_rfl) ?_
 refine blkH.r ?_
 show CQ H q l .ret _
 exact CQ.of (R := R.take k') (m := k') (by kernel_rfl) (by rw [List.length_take]; omega) (by kernel_rfl) b4
theorem call14 (n : Nat) (H : List AObj) (q : Nat) (l : List S40) (hl : l.length ≤ 1000000) (hH : H[q]? = some (.row 5 (l.map e40))) :
  CallT False Proofs.Tryd.prog 14 [sD q l.length] H fun d h' => d = sD q (compactL l).length ∧ h' = hR H q (compactL l) := by
 have hq := lt_of_getElem? hH
 have hHl : hR H q l = H := by
  show H.set q _ = H
  exact set_same hH
 refine callT_of_ht (c := C14) (T := T) Proofs.Tryd.func14 (by kernel_rfl) T_ok ?_
 refine Ht.mono (Q := CQ H q l) ?_ fun e σ ⟨h1, d, h2, h3, h4⟩ => ⟨h1, d, h2, h3, h4⟩
 show Ht False Proofs.Tryd.prog C14 _ _
 refine Ht.seq (by kernel_rfl) ?_
 refine Ht.region (hxC n) (by kernel_rfl) ?_
 refine Ops.seg' 1 1 (by kernel_rfl) ?_
 refine Ops.done (by kernel_rfl) ?_
 refine seqH.n ?_
 refine Ht.seq (by kernel_rfl) ?_
 refine Ht.seq (by kernel_rfl) ?_
 refine Ht.region (hxC n) (by kernel_rfl) ?_
 refine Ops.seg' 3 3 (by kernel_rfl) ?_
 refine Ops.done (by kernel_rfl) ?_
 refine seqH.n ?_
 refine Ht.cond (decide ((l.length : Int) < 2)) (by kernel_rfl) (by kernel_rfl) (fun hc => ?_) (fun hc => ?_)
 ·have hc := of_decide_eq_true hc
  refine Ht.seq (by kernel_rfl) ?_
  refine Ht.region (hxC n) (by kernel_rfl) ?_
  refine Ops.seg' 2 2 (by kernel_rfl) ?_
  refine Ops.done (by kernel_rfl) ?_
  refine seqH.n ?_
  refine Ht.ret (by kernel_rfl) ?_
  refine seqH.r ?_
  refine CQ.of (R := l) (m := l.length) (by kernel_rfl) rfl ?_ (compactL_short (by omega)).symm
  rw [hHl]; kernel_rfl
 have hc := of_decide_eq_false hc
 refine Ht.skip (by kernel_rfl) ?_
 refine seqH.n ?_
 refine Ht.seq (by kernel_rfl) ?_
 refine Ht.seq (by kernel_rfl) ?_
 refine Ht.region (hxC n) (by kernel_rfl) ?_
 refine Ops.seg' 1 1 (by kernel_rfl) ?_
 refine Ops.done (by kernel_rfl) ?_
 refine seqH.n ?_
 refine Ht.forget [0, 3] (Ht.st (σ' := S1 q l.length 1 H) (by kernel_rfl) ?_)
 rw [← hHl]
 have := compact1 n H q hq l hl (by omega)
 rw [hHl] at this ⊢
 exact this
end Go.Abs
