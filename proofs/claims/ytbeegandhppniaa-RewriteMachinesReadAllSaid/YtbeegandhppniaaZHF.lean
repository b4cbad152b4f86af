import Derived.Test.YtbeegandhppniaaYT
import Derived.Test.YtbeegandhppniaaAbsHT
import Derived.Test.YtbeegandhppniaaWF1c
namespace Go.Abs
open Go.Sort Go.Proofs
set_option linter.unusedVariables false
set_option linter.unusedSimpArgs false
set_option linter.unnecessarySimpa false
set_option maxRecDepth 100000
noncomputable def XC (n : Nat) : Cx := ⟨{ E with rowM := true }, run Proofs.Try.prog E n, ⟨fun _ => [], fun _ => [], fun _ => []⟩, [], n⟩
theorem hxC (n : Nat) : Hx False Proofs.Try.prog (XC n) := ⟨good.mixed, good.types, run_sound good n⟩
def Sm (n : Nat) (l : List (Nat × D)) (h : List AObj) : St := ⟨(List.range n).map fun i => (l.lookup i).getD .undef, h⟩
theorem seqH.x {DR : Prop} {P : Program} {b : Code} {Q : Post} {id : Nat} {σ : St} (h : Q (.exit id) σ) : seqH DR P b Q (.exit id) σ := h
theorem seqH.r {DR : Prop} {P : Program} {b : Code} {Q : Post} {σ : St} (h : Q .ret σ) : seqH DR P b Q .ret σ := h
theorem blkH.r {id : Nat} {Q : Post} {σ : St} (h : Q .ret σ) : blkH id Q .ret σ := h
theorem blkH.n {id : Nat} {Q : Post} {σ : St} (h : Q .normal σ) : blkH id Q .normal σ := h
theorem Ht.st {DR : Prop} {P : Program} {c : Code} {σ σ' : St} {Q : Post} (e : σ = σ') (h : Ht DR P c σ' Q) : Ht DR P c σ Q := by rw [e]; exact h
theorem ldc {i : TI} {h : List AObj} {r off : Nat} {cs : List D} {d : D} (hr : h[r]? = some (.cells cs)) (hd : (cut cs off i.size).bind (mkOf i.kind.isAgg) = some d) : (loadD i h (.ptr r off)).map (·, h) = some (d, h) := by
 simp only [loadD, hr, hd, Option.map_some]
theorem stc {i : TI} {h : List AObj} {r off : Nat} {cs cs' : List D} {x : D} (hr : h[r]? = some (.cells cs)) (hs : (x.solid && x.cells.length == i.size) = true) (hc : splice cs off x.cells = some cs') : (storeD i h (.ptr r off) x).map (U, ·) = some (U, h.set r (.cells cs')) := by
 simp only [storeD, hs, if_true, hr, hc, Option.map_some]
theorem ixo {h : List AObj} {q off N j : Nat} {es : List V} {i : Int} (hq : h[q]? = some (.row 5 es)) (hi : i = (j : Int)) (hj : j < N) : (indexAddrH T h 26 (D.unt (.osl q off N false)) (dI i)).map (·, h) = some (.eptr q (off + j) 0, h) := by
 subst hi
 have hn : natOf (dI (j : Int)) = some j := by simp [natOf]
 have hT : T 26 = some ti26 := rfl
 have hk : ti26.kind = .slice 54 := rfl
 simp only [D.unt, indexAddrH, hT, hk, hn, if_pos hj, show sizeT T 54 = some 5 from rfl, hq, if_true, Option.map_some]
theorem lde {h : List AObj} {q j : Nat} {R : List S53} {a : S53} (hq : h[q]? = some (.row 5 (R.map e53))) (ha : R[j]? = some a) : (loadD ti54 h (.eptr q j 0)).map (·, h) = some (.v (e53 a), h) := by
 have hx : (R.map e53)[j]? = some (e53 a) := by rw [List.getElem?_map, ha]; rfl
 simp only [loadD, hq, hx]
 rfl
theorem ste {h : List AObj} {q j : Nat} {R : List S53} {a b : S53} (hq : h[q]? = some (.row 5 (R.map e53))) (hb : R[j]? = some b) : (storeD ti54 h (.eptr q j 0) (.v (e53 a))).map (U, ·) = some (U, h.set q (.row 5 ((R.set j a).map e53))) := by
 have hx : (R.map e53)[j]? = some (e53 b) := by rw [List.getElem?_map, hb]; rfl
 have h1 : ((D.v (e53 a)).solid && (D.v (e53 a)).cells.length == ti54.size) = true := rfl
 have h2 : storeV (e53 b) (e53 a) 0 = some (e53 a) := rfl
 have h3 : ((e53 a).cells.length == 5 && (e53 a).solid) = true := rfl
 simp only [storeD, h1, if_true, hq, hx, h2, h3, Option.map_some, List.map_set]
theorem slo {h : List AObj} {q N k : Nat} {es : List V} (hq : h[q]? = some (.row 5 es)) (hk : k < N) : (sliceD T h 26 (D.unt (.osl q 0 N false)) (some (dI (k : Int))) none none).map (·, h) = some (.osl q k (N - k) false, h) := by
 have hn : natOr 0 (some (dI (k : Int))) = some k := by simp [natOr, natOf]
 have hs : shapeOk h q 5 = true := by simp [shapeOk, hq]
 have hT : T 26 = some ti26 := rfl
 have hkd : ti26.kind = .slice 54 := rfl
 have hne : (k == N) = false := by simp; omega
 simp only [D.unt, sliceD, hT, hkd, boundsD, hn, show natOr N none = some N from rfl]
 rw [if_pos ⟨by omega, Nat.le_refl _⟩]
 simp only [show sizeT T 54 = some 5 from rfl, hs, if_true, hne, Bool.false_eq_true, if_false, Option.isNone_none, Bool.not_false, Bool.and_self, Bool.true_or, Nat.zero_add, Option.map_some, fullTo, Bool.false_and]
theorem slh {h : List AObj} {q N k : Nat} {es : List V} (hq : h[q]? = some (.row 5 es)) (h0 : 0 < k) (hk : k ≤ N) : (sliceD T h 26 (D.unt (.osl q 0 N false)) none (some (dI (k : Int))) none).map (·, h) = some (.osl q 0 k false, h) := by
 have hn : natOr N (some (dI (k : Int))) = some k := by simp [natOr, natOf]
 have hs : shapeOk h q 5 = true := by simp [shapeOk, hq]
 have hT : T 26 = some ti26 := rfl
 have hkd : ti26.kind = .slice 54 := rfl
 have hne : (0 == k) = false := by simp; omega
 simp only [D.unt, sliceD, hT, hkd, boundsD, hn, show natOr 0 none = some 0 from rfl]
 rw [if_pos ⟨by omega, hk⟩]
 simp only [show sizeT T 54 = some 5 from rfl, hs, if_true, hne, Bool.false_eq_true, if_false, Option.isNone_none, Bool.not_false, Bool.and_self, Bool.true_or, Nat.add_zero, Nat.sub_zero, Option.map_some, fullTo, Bool.false_and]
theorem clr {h : List AObj} {q k m : Nat} {R : List S53} (hq : h[q]? = some (.row 5 (R.map e53))) (h0 : 0 < m) (hl : k + m = R.length) : (clearD T 26 h (.osl q k m false)).map (U, ·) = some (U, h.set q (.row 5 ((R.take k).map e53))) := by
 have hT : T 26 = some ti26 := rfl
 have hT2 : T 54 = some ti54 := rfl
 have hkd : ti26.kind = .slice 54 := rfl
 simp only [clearD, hT, hkd, hq, hT2]
 rw [if_pos ⟨rfl, rfl, h0, by rw [List.length_map]; exact hl⟩, Option.map_some, List.map_take]
abbrev sD (q N : Nat) : D := .osl q 0 N false
abbrev hR (H : List AObj) (q : Nat) (R : List S53) : List AObj := H.set q (.row 5 (R.map e53))
theorem hR_get {H : List AObj} {q : Nat} (hq : q < H.length) (R : List S53) : (hR H q R)[q]? = some (.row 5 (R.map e53)) := List.getElem?_set_self hq
theorem hR_set {H : List AObj} {q : Nat} (R R' : List S53) : (hR H q R).set q (.row 5 (R'.map e53)) = hR H q R' := by simp only [hR, List.set_set]
end Go.Abs
namespace Go.Abs.Rd
open Go.Sort Go.Proofs
set_option linter.unusedVariables false
set_option maxRecDepth 100000
def eqW (x y : S53) : Bool := (((x.fFrom == y.fFrom) && (x.fIn == y.fIn)) && (x.fOut == y.fOut)) && (x.fTo == y.fTo)
theorem f55_eq (m : Nat) (x y : S53) : f55 m x y = some (eqW x y) := rfl
theorem call55 {n : Nat} {h : List AObj} (x y : S53) (hn : 10 ≤ n) : callD (XC n).E (run Proofs.Try.prog E n) 55 [.v (e53 x), .v (e53 y)] h = some (dB (eqW x y), h) :=
 call_ok (E' := (XC n).E) (h := h) (by kernel_rfl) (Args.v (e53 x) (e53 x) (by kernel_rfl) (Args.v (e53 y) (e53 y) (by kernel_rfl) Args.nil)) (ok55 0 x y (eqW x y) (f55_eq 0 x y) n (by omega))
def goC : S53 → List S53 → List S53
 | _, [] => []
 | p, y :: r => if eqW y p = true then goC y r else y :: goC y r
def compactL : List S53 → List S53
 | [] => []
 | x :: r => x :: goC x r
theorem compactL_short {l : List S53} (h : l.length < 2) : compactL l = l := by
 match l, h with
 | [], _ => rfl
 | [x], _ => rfl
theorem goC_eq {p y : S53} {r : List S53} (h : eqW y p = true) : goC p (y :: r) = goC y r := by simp [goC, h]
theorem goC_ne {p y : S53} {r : List S53} (h : eqW y p = false) : goC p (y :: r) = y :: goC y r := by simp [goC, h]
noncomputable def C54 : Code := bodyOf Proofs.Try.prog 54
def CQ (H : List AObj) (q : Nat) (l : List S53) : Post := fun e σ => (e = .normal ∨ e = .ret) ∧ ∃ d, resultsD T σ (resOf Proofs.Try.prog 54) = some d ∧ d = .osl q 0 (compactL l).length false ∧ σ.heap = hR H q (compactL l)
theorem CQ.of {H : List AObj} {q : Nat} {l R : List S53} {σ : St} {m : Nat} (h4 : σ.tmps.getD 4 .undef = .osl q 0 m false) (hm : R.length = m) (hh : σ.heap = hR H q R) (hR : R = compactL l) : CQ H q l .ret σ := by
 have hr : resOf Proofs.Try.prog 54 = [.tmp 4] := by kernel_rfl
 subst hR
 refine ⟨.inr rfl, .osl q 0 m false, ?_, by rw [hm], hh⟩
 rw [hr]
 simp only [resultsD, allM, resultD, h4]
noncomputable abbrev M54 : Code := cL (cR (cL (cR (cL (cR (cL (cL (cR (cL (cL (cR (cL (cR (cR C54))))))))))))))
abbrev S1 (q N : Nat) (k : Int) (h : List AObj) : St := Sm 66 [(0, sD q N), (1, .v (.fn 55)), (5, dI k)] h
abbrev S2 (q N k0 : Nat) (k k2 : Int) (h : List AObj) : St := Sm 66 [(0, sD q N), (1, .v (.fn 55)), (5, dI k), (6, .osl q k0 (N - k0) false), (7, dI k2)] h
theorem compact2 (n : Nat) (H : List AObj) (q : Nat) (hq : q < H.length) (l : List S53) (hl : l.length ≤ 1000000) (ht : 10 ≤ n) (k0 : Nat) (h0 : 0 < k0) (hk : k0 < l.length) {Q : Post}
  (hQ : ∀ (k : Nat) R σ, 0 < k → k < l.length → R.length = l.length → R.take k = compactL l → Abs.forget [0, 5] σ = Sm 66 [(0, sD q l.length), (5, dI (k : Int))] (hR H q R) → Q (.exit 2) σ)
  (x0 : S53) (hx0 : l[k0]? = some x0) (h1 : l.take k0 ++ goC x0 (l.drop (k0 + 1)) = compactL l) :
  Ht False Proofs.Try.prog M54 (S2 q l.length k0 k0 1 (hR H q l)) Q := by
 refine Ht.loop (fun m σ => ∃ (k k2 : Nat) (R : List S53) (x : S53), m = l.length - k2 ∧ 1 ≤ k2 ∧ k0 + k2 ≤ l.length ∧ k0 ≤ k ∧ k + 1 ≤ k0 + k2 ∧ R.length = l.length ∧ R.drop (k0 + k2 - 1) = l.drop (k0 + k2 - 1) ∧ l[k0 + k2 - 1]? = some x ∧ R.take k ++ goC x (l.drop (k0 + k2)) = compactL l ∧
   Abs.forget [0, 1, 5, 6, 7] σ = S2 q l.length k0 k k2 (hR H q R)) (l.length - 1) (by kernel_rfl) ⟨k0, 1, l, x0, rfl, Nat.le_refl _, by omega, Nat.le_refl _, by omega, rfl, rfl, hx0, h1, by kernel_rfl⟩ ?_
 rintro m σ ⟨k, k2, R, x, rfl, a1, a2, a3, a4, a5, a6, a7, a8, hσ⟩
 refine Ht.forget [0, 1, 5, 6, 7] (Ht.st hσ ?_)
 clear hσ
 refine Ht.seq (by kernel_rfl) ?_
 refine Ht.seq (by kernel_rfl) ?_
 refine Ht.region (hxC n) (by kernel_rfl) ?_
 refine Ops.seg' 4 4 (by kernel_rfl) ?_
 refine Ops.done (by kernel_rfl) ?_
 refine seqH.n ?_
 refine Ht.cond (decide ((k2 : Int) < ((l.length - k0 : Nat) : Int))) (by kernel_rfl) (by kernel_rfl) (fun hc => ?_) (fun hc => ?_)
 case refine_2 =>
  have hc := of_decide_eq_false hc
  refine Ht.exit (id := 2) (by kernel_rfl) ?_
  show Q (.exit 2) _
  have hd : l.drop (k0 + k2) = [] := List.drop_eq_nil_of_le (by omega)
  rw [hd] at a8
  refine hQ k R _ (by omega) (by omega) a5 (by simpa [goC] using a8) (by kernel_rfl)
 have hc := of_decide_eq_true hc
 have hlt : k0 + k2 < l.length := by omega
 obtain ⟨y, hy⟩ : ∃ y, l[k0 + k2]? = some y := ⟨_, List.getElem?_eq_getElem hlt⟩
 have hget : ∀ j, k0 + k2 - 1 ≤ j → R[j]? = l[j]? := by
  intro j hj
  have := congrArg (fun z => z[j - (k0 + k2 - 1)]?) a6
  simp only [List.getElem?_drop] at this
  rw [show k0 + k2 - 1 + (j - (k0 + k2 - 1)) = j by omega] at this
  exact this
 have hRy : R[k0 + k2]? = some y := by rw [hget _ (by omega)]; exact hy
 have hRx : R[k0 + (k2 - 1)]? = some x := by rw [show k0 + (k2 - 1) = k0 + k2 - 1 by omega, hget _ (Nat.le_refl _)]; exact a7
 have hdrop : l.drop (k0 + k2) = y :: l.drop (k0 + k2 + 1) := by
  rw [List.drop_eq_getElem_cons hlt]
  rw [List.getElem?_eq_getElem hlt] at hy
  rw [Option.some.inj hy]
 have hw : w64 ((k2 : Int) - 1) = ((k2 - 1 : Nat) : Int) := by rw [w64_id ⟨by omega, by omega⟩]; omega
 have hw2 : w64 ((k2 : Int) + 1) = ((k2 + 1 : Nat) : Int) := by rw [w64_id ⟨by omega, by omega⟩]; omega
 have hw3 : w64 ((k : Int) + 1) = ((k + 1 : Nat) : Int) := by rw [w64_id ⟨by omega, by omega⟩]; omega
 refine Ht.skip (by kernel_rfl) ?_
 refine seqH.n ?_
 refine Ht.seq (by kernel_rfl) ?_
 refine Ht.block 3 (by kernel_rfl) ?_
 refine Ht.seq (by kernel_rfl) ?_
 refine Ht.region (hxC n) (by kernel_rfl) ?_
 refine Ops.seg' 3 3 (by kernel_rfl) ?_
 refine Ops.one' 4 (fun h0 e0 => (ixo (h := h0) (q := q) (off := k0) (N := l.length - k0) (j := k2) (i := (k2 : Int)) (hq_of (g := hR H q R) (e0.trans (by kernel_rfl)) (hR_get hq R)) rfl (by omega))) (by kernel_rfl) (by kernel_rfl) ?_
 refine Ops.one' 5 (fun h0 e0 => (lde (h := h0) (q := q) (j := k0 + k2) (hq_of (g := hR H q R) (e0.trans (by kernel_rfl)) (hR_get hq R)) hRy)) (by kernel_rfl) (by kernel_rfl) ?_
 refine Ops.seg' 3 8 (by kernel_rfl) ?_
 refine Ops.one' 9 (fun h0 e0 => (ixo (h := h0) (q := q) (off := k0) (N := l.length - k0) (j := k2 - 1) (i := w64 ((k2 : Int) - 1)) (hq_of (g := hR H q R) (e0.trans (by kernel_rfl)) (hR_get hq R)) hw (by omega))) (by kernel_rfl) (by kernel_rfl) ?_
 refine Ops.one' 10 (fun h0 e0 => (lde (h := h0) (q := q) (j := k0 + (k2 - 1)) (hq_of (g := hR H q R) (e0.trans (by kernel_rfl)) (hR_get hq R)) hRx)) (by kernel_rfl) (by kernel_rfl) ?_
 refine Ops.one' 11 (fun h0 e0 => (call55 (n := n) (h := h0) y x ht)) (by kernel_rfl) (by kernel_rfl) ?_
 refine Ops.seg' 1 12 (by kernel_rfl) ?_
 refine Ops.done (by kernel_rfl) ?_
 refine seqH.n ?_
 refine Ht.cond (!(eqW y x)) (by kernel_rfl) (by kernel_rfl) (fun hc1 => ?_) (fun hc1 => ?_)
 ·have hne : eqW y x = false := by simpa using hc1
  rw [hdrop, goC_ne hne] at a8
  obtain ⟨b, hb⟩ : ∃ b, R[k]? = some b := ⟨_, List.getElem?_eq_getElem (by omega)⟩
  refine Ht.seq (by kernel_rfl) ?_
  refine Ht.region (hxC n) (by kernel_rfl) ?_
  refine Ops.seg' 4 4 (by kernel_rfl) ?_
  refine Ops.one' 5 (fun h0 e0 => (ixo (h := h0) (q := q) (off := k0) (N := l.length - k0) (j := k2) (i := (k2 : Int)) (hq_of (g := hR H q R) (e0.trans (by kernel_rfl)) (hR_get hq R)) rfl (by omega))) (by kernel_rfl) (by kernel_rfl) ?_
  refine Ops.one' 6 (fun h0 e0 => (lde (h := h0) (q := q) (j := k0 + k2) (hq_of (g := hR H q R) (e0.trans (by kernel_rfl)) (hR_get hq R)) hRy)) (by kernel_rfl) (by kernel_rfl) ?_
  refine Ops.one' 7 (fun h0 e0 => (ixo (h := h0) (q := q) (off := 0) (N := l.length) (j := k) (i := (k : Int)) (hq_of (g := hR H q R) (e0.trans (by kernel_rfl)) (hR_get hq R)) rfl (by omega))) (by kernel_rfl) (by kernel_rfl) ?_
  refine Ops.one' 8 (fun h0 e0 => (ste (h := h0) (q := q) (j := 0 + k) (R := R) (a := y) (b := b) (hq_of (g := hR H q R) (e0.trans (by kernel_rfl)) (hR_get hq R)) (by rw [Nat.zero_add]; exact hb))) (by kernel_rfl) (by kernel_rfl) ?_
  refine Ops.done (by kernel_rfl) ?_
  refine seqH.n ?_
  refine Ht.region (hxC n) (by kernel_rfl) ?_
  refine Ops.seg' 3 3 (by kernel_rfl) ?_
  refine Ops.done (by kernel_rfl) ?_
  refine blkH.n ?_
  refine seqH.n ?_
  refine Ht.region (hxC n) (by kernel_rfl) ?_
  refine Ops.seg' 3 3 (by kernel_rfl) ?_
  refine Ops.done (by kernel_rfl) ?_
  refine ⟨l.length - (k2 + 1), by omega, k + 1, k2 + 1, R.set k y, y, rfl, by omega, by omega, by omega, by omega, by rw [List.length_set]; exact a5, ?_, by rw [show k0 + (k2 + 1) - 1 = k0 + k2 by omega]; exact hy, ?_, ?_⟩
  ·rw [List.drop_set_of_lt (by omega)]
   have := congrArg (List.drop 1) a6
   rw [List.drop_drop, List.drop_drop] at this
   rw [show k0 + (k2 + 1) - 1 = k0 + k2 - 1 + 1 by omega]
   exact this
  ·have ht1 : (R.set k y).take (k + 1) = R.take k ++ [y] := by
    rw [List.take_add_one, List.take_set_of_le (Nat.le_refl _), List.getElem?_set_self (by omega)]; rfl
   rw [ht1, ← a8, show k0 + (k2 + 1) = k0 + k2 + 1 by omega]
   simp
  ·have e : ∀ (a b : Int) (h : List AObj), a = ((k + 1 : Nat) : Int) → b = ((k2 + 1 : Nat) : Int) → h = hR H q (R.set k y) → S2 q l.length k0 a b h = S2 q l.length k0 ((k + 1 : Nat) : Int) ((k2 + 1 : Nat) : Int) (hR H q (R.set k y)) := fun a b h ha hb hh => by rw [ha, hb, hh]
   refine Eq.trans ?_ (e (w64 ((k : Int) + 1)) (w64 ((k2 : Int) + 1)) ((hR H q R).set q (.row 5 ((R.set (0 + k) y).map e53))) hw3 hw2 (by rw [Nat.zero_add]; exact hR_set R _))
   kernel_rfl
 ·have heq : eqW y x = true := by simpa using hc1
  rw [hdrop, goC_eq heq] at a8
  refine Ht.skip (by kernel_rfl) ?_
  refine blkH.n ?_
  refine seqH.n ?_
  refine Ht.region (hxC n) (by kernel_rfl) ?_
  refine Ops.seg' 3 3 (by kernel_rfl) ?_
  refine Ops.done (by kernel_rfl) ?_
  refine ⟨l.length - (k2 + 1), by omega, k, k2 + 1, R, y, rfl, by omega, by omega, a3, by omega, a5, ?_, by rw [show k0 + (k2 + 1) - 1 = k0 + k2 by omega]; exact hy, by rw [show k0 + (k2 + 1) = k0 + k2 + 1 by omega]; exact a8, ?_⟩
  ·have := congrArg (List.drop 1) a6
   rw [List.drop_drop, List.drop_drop] at this
   rw [show k0 + (k2 + 1) - 1 = k0 + k2 - 1 + 1 by omega]
   exact this
  ·have e : ∀ (b : Int), b = ((k2 + 1 : Nat) : Int) → S2 q l.length k0 k b (hR H q R) = S2 q l.length k0 k ((k2 + 1 : Nat) : Int) (hR H q R) := fun b hb => by rw [hb]
   refine Eq.trans ?_ (e (w64 ((k2 : Int) + 1)) hw2)
   kernel_rfl
theorem compact1 (n : Nat) (H : List AObj) (q : Nat) (hq : q < H.length) (l : List S53) (hl : l.length ≤ 1000000) (h2 : 2 ≤ l.length) (ht : 10 ≤ n) :
  Ht False Proofs.Try.prog (cR (cL (cR (cR C54)))) (S1 q l.length 1 (hR H q l)) (seqH False Proofs.Try.prog (cR (cR (cR C54))) (CQ H q l)) := by
 refine Ht.block 0 (by kernel_rfl) ?_
 obtain ⟨x0, hx0⟩ : ∃ x, l[0]? = some x := ⟨_, List.getElem?_eq_getElem (by omega)⟩
 refine Ht.loop (fun m σ => ∃ (k : Nat) (x : S53), m = l.length - k ∧ 1 ≤ k ∧ k ≤ l.length ∧ l[k - 1]? = some x ∧ l.take k ++ goC x (l.drop k) = compactL l ∧ Abs.forget [0, 1, 5] σ = S1 q l.length k (hR H q l)) (l.length - 1) (by kernel_rfl) ⟨1, x0, rfl, Nat.le_refl _, by omega, hx0, ?_, by kernel_rfl⟩ ?_
 ·cases l with
  | nil => simp at hx0
  | cons a r => simp at hx0; subst hx0; simp [compactL]
 rintro m σ ⟨k, x, rfl, a1, a2, a3, a4, hσ⟩
 refine Ht.forget [0, 1, 5] (Ht.st hσ ?_)
 clear hσ
 refine Ht.seq (by kernel_rfl) ?_
 refine Ht.seq (by kernel_rfl) ?_
 refine Ht.region (hxC n) (by kernel_rfl) ?_
 refine Ops.seg' 4 4 (by kernel_rfl) ?_
 refine Ops.done (by kernel_rfl) ?_
 refine seqH.n ?_
 refine Ht.cond (decide ((k : Int) < (l.length : Int))) (by kernel_rfl) (by kernel_rfl) (fun hc => ?_) (fun hc => ?_)
 case refine_2 =>
  have hc := of_decide_eq_false hc
  have hk : k = l.length := by omega
  refine Ht.exit (id := 0) (by kernel_rfl) ?_
  refine seqH.x ?_
  show Ht False Proofs.Try.prog (cR (cR (cR C54))) _ (CQ H q l)
  have hd : l.drop k = [] := List.drop_eq_nil_of_le (by omega)
  rw [hd, hk, List.take_length] at a4
  have hc4 : l = compactL l := by simpa [goC] using a4
  refine Ht.seq (by kernel_rfl) ?_
  refine Ht.region (hxC n) (by kernel_rfl) ?_
  refine Ops.seg' 2 2 (by kernel_rfl) ?_
  refine Ops.done (by kernel_rfl) ?_
  refine seqH.n ?_
  refine Ht.ret (by kernel_rfl) ?_
  exact CQ.of (R := l) (m := l.length) (by kernel_rfl) rfl (by kernel_rfl) hc4
 have hc := of_decide_eq_true hc
 have hlt : k < l.length := by omega
 obtain ⟨y, hy⟩ : ∃ y, l[k]? = some y := ⟨_, List.getElem?_eq_getElem hlt⟩
 have hdrop : l.drop k = y :: l.drop (k + 1) := by
  rw [List.drop_eq_getElem_cons hlt]
  rw [List.getElem?_eq_getElem hlt] at hy
  rw [Option.some.inj hy]
 have htake : l.take (k + 1) = l.take k ++ [y] := by
  rw [List.take_add_one, hy]; rfl
 have hw : w64 ((k : Int) - 1) = ((k - 1 : Nat) : Int) := by rw [w64_id ⟨by omega, by omega⟩]; omega
 have hw3 : w64 ((k : Int) + 1) = ((k + 1 : Nat) : Int) := by rw [w64_id ⟨by omega, by omega⟩]; omega
 refine Ht.skip (by kernel_rfl) ?_
 refine seqH.n ?_
 refine Ht.seq (by kernel_rfl) ?_
 refine Ht.block 1 (by kernel_rfl) ?_
 refine Ht.seq (by kernel_rfl) ?_
 refine Ht.region (hxC n) (by kernel_rfl) ?_
 refine Ops.seg' 3 3 (by kernel_rfl) ?_
 refine Ops.one' 4 (fun h0 e0 => (ixo (h := h0) (q := q) (off := 0) (N := l.length) (j := k) (i := (k : Int)) (hq_of (g := hR H q l) (e0.trans (by kernel_rfl)) (hR_get hq l)) rfl (by omega))) (by kernel_rfl) (by kernel_rfl) ?_
 refine Ops.one' 5 (fun h0 e0 => (lde (h := h0) (q := q) (j := 0 + k) (hq_of (g := hR H q l) (e0.trans (by kernel_rfl)) (hR_get hq l)) (by rw [Nat.zero_add]; exact hy))) (by kernel_rfl) (by kernel_rfl) ?_
 refine Ops.seg' 3 8 (by kernel_rfl) ?_
 refine Ops.one' 9 (fun h0 e0 => (ixo (h := h0) (q := q) (off := 0) (N := l.length) (j := k - 1) (i := w64 ((k : Int) - 1)) (hq_of (g := hR H q l) (e0.trans (by kernel_rfl)) (hR_get hq l)) hw (by omega))) (by kernel_rfl) (by kernel_rfl) ?_
 refine Ops.one' 10 (fun h0 e0 => (lde (h := h0) (q := q) (j := 0 + (k - 1)) (hq_of (g := hR H q l) (e0.trans (by kernel_rfl)) (hR_get hq l)) (by rw [Nat.zero_add]; exact a3))) (by kernel_rfl) (by kernel_rfl) ?_
 refine Ops.one' 11 (fun h0 e0 => (call55 (n := n) (h := h0) y x ht)) (by kernel_rfl) (by kernel_rfl) ?_
 refine Ops.done (by kernel_rfl) ?_
 refine seqH.n ?_
 refine Ht.cond (eqW y x) (by kernel_rfl) (by kernel_rfl) (fun hc1 => ?_) (fun hc1 => ?_)
 case refine_2 =>
  have hne : eqW y x = false := by simpa using hc1
  rw [hdrop, goC_ne hne] at a4
  refine Ht.skip (by kernel_rfl) ?_
  refine blkH.n ?_
  refine seqH.n ?_
  refine Ht.region (hxC n) (by kernel_rfl) ?_
  refine Ops.seg' 3 3 (by kernel_rfl) ?_
  refine Ops.done (by kernel_rfl) ?_
  refine ⟨l.length - (k + 1), by omega, k + 1, y, rfl, by omega, by omega, by rw [Nat.add_sub_cancel]; exact hy, by rw [htake, ← a4]; simp, ?_⟩
  have e : ∀ (b : Int), b = ((k + 1 : Nat) : Int) → S1 q l.length b (hR H q l) = S1 q l.length ((k + 1 : Nat) : Int) (hR H q l) := fun b hb => by rw [hb]
  refine Eq.trans ?_ (e (w64 ((k : Int) + 1)) hw3)
  kernel_rfl
 have heq : eqW y x = true := by simpa using hc1
 rw [hdrop, goC_eq heq] at a4
 refine Ht.seq (by kernel_rfl) ?_
 refine Ht.region (hxC n) (by kernel_rfl) ?_
 refine Ops.seg' 2 2 (by kernel_rfl) ?_
 refine Ops.one' 3 (fun h0 e0 => (slo (h := h0) (q := q) (N := l.length) (k := k) (hq_of (g := hR H q l) (e0.trans (by kernel_rfl)) (hR_get hq l)) hlt)) (by kernel_rfl) (by kernel_rfl) ?_
 refine Ops.seg' 1 4 (by kernel_rfl) ?_
 refine Ops.done (by kernel_rfl) ?_
 refine seqH.n ?_
 refine Ht.seq (by kernel_rfl) ?_
 refine Ht.seq (by kernel_rfl) ?_
 refine Ht.region (hxC n) (by kernel_rfl) ?_
 refine Ops.seg' 1 1 (by kernel_rfl) ?_
 refine Ops.done (by kernel_rfl) ?_
 refine seqH.n ?_
 refine Ht.block 2 (by kernel_rfl) ?_
 refine Ht.forget [0, 1, 5, 6, 7] (Ht.st (σ' := S2 q l.length k k 1 (hR H q l)) (by kernel_rfl) ?_)
 refine compact2 n H q hq l hl ht k (by omega) hlt (fun k' R σ b1 b2 b3 b4 hσ => ?_) y hy a4
 refine blkH.x ?_
 refine seqH.n ?_
 refine Ht.forget [0, 5] (Ht.st hσ ?_)
 clear hσ
 refine Ht.seq (by kernel_rfl) ?_
 refine Ht.region (hxC n) (by kernel_rfl) ?_
 refine Ops.seg' 2 2 (by kernel_rfl) ?_
 refine Ops.one' 3 (fun h0 e0 => (slo (h := h0) (q := q) (N := l.length) (k := k') (hq_of (g := hR H q R) (e0.trans (by kernel_rfl)) (hR_get hq R)) b2)) (by kernel_rfl) (by kernel_rfl) ?_
 refine Ops.one' 4 (fun h0 e0 => (clr (h := h0) (q := q) (k := k') (m := l.length - k') (R := R) (hq_of (g := hR H q R) (e0.trans (by kernel_rfl)) (hR_get hq R)) (by omega) (by omega))) (by kernel_rfl) (by kernel_rfl) ?_
 refine Ops.done (by kernel_rfl) ?_
 refine seqH.n ?_
 refine Ht.forget [0, 5] (Ht.st (σ' := Sm 66 [(0, sD q l.length), (5, dI (k' : Int))] ((hR H q R).set q (.row 5 ((R.take k').map e53)))) (by kernel_rfl) ?_)
 rw [hR_set]
 refine Ht.seq (by kernel_rfl) ?_
 refine Ht.region (hxC n) (by kernel_rfl) ?_
 refine Ops.seg' 2 2 (by kernel_rfl) ?_
 refine Ops.one' 3 (fun h0 e0 => (slh (h := h0) (q := q) (N := l.length) (k := k') (hq_of (g := hR H q (R.take k')) (e0.trans (by kernel_rfl)) (hR_get hq (R.take k'))) b1 (by omega))) (by kernel_rfl) (by kernel_rfl) ?_
 refine Ops.seg' 1 4 (by kernel_rfl) ?_
 refine Ops.done (by kernel_rfl) ?_
 refine seqH.n ?_
 refine Ht.ret (by kernel_rfl) ?_
 refine blkH.r ?_
 show CQ H q l .ret _
 exact CQ.of (R := R.take k') (m := k') (by kernel_rfl) (by rw [List.length_take]; omega) (by kernel_rfl) b4
theorem call54 (n : Nat) (H : List AObj) (q : Nat) (l : List S53) (hl : l.length ≤ 1000000) (ht : 10 ≤ n) (hH : H[q]? = some (.row 5 (l.map e53))) :
  CallT False Proofs.Try.prog 54 [sD q l.length, .v (.fn 55)] H fun d h' => d = sD q (compactL l).length ∧ h' = hR H q (compactL l) := by
 have hq := lt_of_getElem? hH
 have hHl : hR H q l = H := by
  show H.set q _ = H
  exact set_same hH
 refine callT_of_ht (c := C54) (T := T) Proofs.Try.func54 (by kernel_rfl) T_ok ?_
 refine Ht.mono (Q := CQ H q l) ?_ fun e σ ⟨h1, d, h2, h3, h4⟩ => ⟨h1, d, h2, h3, h4⟩
 show Ht False Proofs.Try.prog C54 _ _
 refine Ht.seq (by kernel_rfl) ?_
 refine Ht.region (hxC n) (by kernel_rfl) ?_
 refine Ops.seg' 1 1 (by kernel_rfl) ?_
 refine Ops.done (by kernel_rfl) ?_
 refine seqH.n ?_
 refine Ht.seq (by kernel_rfl) ?_
 refine Ht.seq (by kernel_rfl) ?_
 refine Ht.region (hxC n) (by kernel_rfl) ?_
 refine Ops.seg' 3 3 (by kernel_rfl) ?_
 refine Ops.done (by kernel_rfl) ?_
 refine seqH.n ?_
 refine Ht.cond (decide ((l.length : Int) < 2)) (by kernel_rfl) (by kernel_rfl) (fun hc => ?_) (fun hc => ?_)
 ·have hc := of_decide_eq_true hc
  refine Ht.seq (by kernel_rfl) ?_
  refine Ht.region (hxC n) (by kernel_rfl) ?_
  refine Ops.seg' 2 2 (by kernel_rfl) ?_
  refine Ops.done (by kernel_rfl) ?_
  refine seqH.n ?_
  refine Ht.ret (by kernel_rfl) ?_
  refine seqH.r ?_
  refine CQ.of (R := l) (m := l.length) (by kernel_rfl) rfl ?_ (compactL_short (by omega)).symm
  rw [hHl]; kernel_rfl
 have hc := of_decide_eq_false hc
 refine Ht.skip (by kernel_rfl) ?_
 refine seqH.n ?_
 refine Ht.seq (by kernel_rfl) ?_
 refine Ht.seq (by kernel_rfl) ?_
 refine Ht.region (hxC n) (by kernel_rfl) ?_
 refine Ops.seg' 1 1 (by kernel_rfl) ?_
 refine Ops.done (by kernel_rfl) ?_
 refine seqH.n ?_
 refine Ht.forget [0, 1, 5] (Ht.st (σ' := S1 q l.length 1 H) (by kernel_rfl) ?_)
 rw [← hHl]
 have := compact1 n H q hq l hl (by omega) ht
 rw [hHl] at this ⊢
 exact this
set_option maxHeartbeats 2000000
theorem callT_eq {DR : Prop} {P : Program} {f : FuncId} {ds ds' : List D} {h h' : List AObj} {Q : D → List AObj → Prop} (e1 : ds = ds') (e2 : h = h') (hc : CallT DR P f ds' h' Q) : CallT DR P f ds h Q := by rw [e1, e2]; exact hc
theorem dcall {DR : Prop} {P : Program} {f : FuncId} {F : List D → List AObj → Option (D × List AObj)} (h : DOk DR P f F) {ds : List D} {hp hp' : List AObj} {d : D} (he : F ds hp = some (d, hp')) : CallT DR P f ds hp fun d0 h0 => d0 = d ∧ h0 = hp' := by
 intro S β w vs hr hi
 refine (h.2 ds hp d hp' he S β w vs hr hi).mono ?_
 rintro e w' ⟨v, S', β', h1, h2, h3, h4⟩
 exact ⟨d, hp', v, S', β', ⟨rfl, rfl⟩, h1, h2, h3, h4⟩
noncomputable def XO (n : Nat) : Cx := ⟨{ E with rowM := true, dynP := true, pureF := fun f => E.pureF f && !(f == 53 || f == 35 || f == 54 || f == 41 || f == 18) }, run Proofs.Try.prog E n, ⟨fun _ => [], fun _ => [], fun _ => []⟩, [], n⟩
theorem hxO (n : Nat) : Hx False Proofs.Try.prog (XO n) := ⟨good.mixed, good.types, run_sound good n⟩
theorem is53 : Is Proofs.Try.prog 53 := ⟨Proofs.Try.f53, Proofs.Try.func53, by kernel_rfl, by kernel_rfl⟩
theorem is41 : Is Proofs.Try.prog 41 := ⟨Proofs.Try.f41, Proofs.Try.func41, by kernel_rfl, by kernel_rfl⟩
theorem is54 : Is Proofs.Try.prog 54 := ⟨Proofs.Try.f54, Proofs.Try.func54, by kernel_rfl, by kernel_rfl⟩
theorem appC {h : List AObj} {q : Nat} {l : List S53} (hq : h[q]? = some (.row 5 (l.map e53))) (hl : l ≠ []) (hb : l.length ≤ 1000000) : appendD T true 26 h (.v (.sl .nonfull [])) (sD q l.length) = some (sD h.length l.length, h ++ [.row 5 (l.map e53)]) := by
 have hT : T 26 = some ti26 := rfl
 have hT2 : T 54 = some ti54 := rfl
 have hkd : ti26.kind = .slice 54 := rfl
 have he : elemsOf ti54.size h (D.unt (sD q l.length)) = some (l.map e53) := by
  show elemsOf 5 h (.osl q 0 l.length false) = _
  simp only [elemsOf, hq]
  rw [if_pos ⟨trivial, by simp⟩, List.drop_zero, List.take_of_length_le (by simp)]
 cases l with
 | nil => exact absurd rfl hl
 | cons x r =>
  unfold appendD
  simp only [hT, hkd, hT2]
  rw [if_neg (by decide)]
  rw [he]
  have h40 : ti54.bytes = 40 := rfl
  simp only [List.map_cons]
  rw [if_pos (by
   simp only [Bool.and_eq_true, decide_eq_true_eq, h40, List.length_cons, List.length_map, List.length_nil]
   have hb : r.length + 1 ≤ 1000000 := hb
   exact ⟨⟨⟨rfl, rfl⟩, by omega⟩, by unfold maxLen; omega⟩)]
  simp
  exact rfl
theorem call71o (n : Nat) (H : List AObj) (q : Nat) (l : List S53) (hl : l ≠ []) (hb : l.length ≤ 1000000) (hH : H[q]? = some (.row 5 (l.map e53))) :
  CallT False Proofs.Try.prog 53 [sD q l.length] H fun d h' => d = sD H.length l.length ∧ h' = H ++ [.row 5 (l.map e53)] := by
 have hr : resOf Proofs.Try.prog 53 = [.tmp 2] := by kernel_rfl
 refine callT_of_ht (c := bodyOf Proofs.Try.prog 53) (T := T) Proofs.Try.func53 (by kernel_rfl) T_ok ?_
 refine Ht.seq (by kernel_rfl) ?_
 refine Ht.region (hxO n) (by kernel_rfl) ?_
 refine Ops.seg' 1 1 (by kernel_rfl) ?_
 refine Ops.done (by kernel_rfl) ?_
 refine seqH.n ?_
 refine Ht.seq (by kernel_rfl) ?_
 refine Ht.seq (by kernel_rfl) ?_
 refine Ht.region (hxO n) (by kernel_rfl) ?_
 refine Ops.seg' 2 2 (by kernel_rfl) ?_
 refine Ops.done (by kernel_rfl) ?_
 refine seqH.n ?_
 refine Ht.cond false (by kernel_rfl) (by kernel_rfl) (fun hc => nomatch hc) (fun _ => ?_)
 refine Ht.skip (by kernel_rfl) ?_
 refine seqH.n ?_
 refine Ht.seq (by kernel_rfl) ?_
 refine Ht.region (hxO n) (by kernel_rfl) ?_
 refine Ops.seg' 2 2 (by kernel_rfl) ?_
 refine Ops.one' 3 (fun h0 e0 => appC (h := h0) (q := q) (hq_of (g := H) (e0.trans (by kernel_rfl)) hH) hl hb) (by kernel_rfl) (by kernel_rfl) ?_
 refine Ops.seg' 1 4 (by kernel_rfl) ?_
 refine Ops.done (by kernel_rfl) ?_
 refine seqH.n ?_
 refine Ht.ret (by kernel_rfl) ?_
 have fin : ∀ σ : St, σ.tmps.getD 2 .undef = sD H.length l.length → resultsD T σ (resOf Proofs.Try.prog 53) = some (sD H.length l.length) := fun σ h4 => by
  rw [hr]; simp only [resultsD, allM, resultD, h4]
 exact ⟨.inr rfl, sD H.length l.length, fin _ (by kernel_rfl), rfl, by kernel_rfl⟩
def redW (l : List S53) : List S53 := compactL (srtC cmpA l)
theorem srtC_len (l : List S53) : (srtC cmpA l).length = l.length := (srtC_perm l).length_eq
theorem call41 (n : Nat) (H : List AObj) (q : Nat) (l : List S53) (hl : l ≠ []) (hb : l.length ≤ 1000000) (hn : 10 ≤ n) (hH : H[q]? = some (.row 5 (l.map e53))) :
  CallT False Proofs.Try.prog 41 [sD q l.length] H fun d h' => d = sD H.length (redW l).length ∧ h' = H ++ [.row 5 ((redW l).map e53)] := by
 have hr : resOf Proofs.Try.prog 41 = [.tmp 2] := by kernel_rfl
 have hpos : 0 < l.length := List.length_pos_iff.2 hl
 refine callT_of_ht (c := bodyOf Proofs.Try.prog 41) (T := T) Proofs.Try.func41 (by kernel_rfl) T_ok ?_
 refine Ht.seq (by kernel_rfl) ?_
 refine Ht.region (hxO n) (by kernel_rfl) ?_
 refine Ops.seg' 1 1 (by kernel_rfl) ?_
 refine Ops.done (by kernel_rfl) ?_
 refine seqH.n ?_
 refine Ht.seq (by kernel_rfl) ?_
 refine Ht.regionCall' (hxO n) 1 (t := 5) (args := [.tmp 4]) (Qc := fun d h' => d = sD H.length l.length ∧ h' = H ++ [.row 5 (l.map e53)]) (by kernel_rfl) is53 ?_
 refine OpsU.seg' 1 1 (by kernel_rfl) ?_
 refine OpsU.done ⟨callT_eq (by kernel_rfl) (by kernel_rfl) (call71o n H q l hl hb hH), fun d h' hd => ?_⟩
 obtain ⟨rfl, rfl⟩ := hd
 refine Ops.seg' 1 3 (by kernel_rfl) ?_
 refine Ops.done (by kernel_rfl) ?_
 refine seqH.n ?_
 refine Ht.forget [3] (Ht.st (σ' := Sm 10 [(3, sD H.length l.length)] (H ++ [.row 5 (l.map e53)])) (by kernel_rfl) ?_)
 refine Ht.seq (by kernel_rfl) ?_
 have hsort : sortA [sD H.length l.length, .v (.fn 36)] (H ++ [.row 5 (l.map e53)]) = some (U, H ++ [.row 5 ((srtC cmpA l).map e53)]) := by
  have hq : (H ++ [AObj.row 5 (l.map e53)])[H.length]? = some (.row 5 (l.map e53)) := by rw [List.getElem?_append_right (Nat.le_refl _), Nat.sub_self]; rfl
  simp only [sortA, sortFnF, hq]
  rw [if_pos ⟨trivial, trivial, by rw [List.length_map], hpos, by omega⟩, allM_decA, Option.map_some]
  congr 2
  rw [List.set_append_right _ _ (Nat.le_refl _), Nat.sub_self]
  rfl
 refine Ht.regionCall' (hxO n) 1 (t := 7) (args := [.tmp 6, .func 36]) (Qc := fun d h' => d = U ∧ h' = H ++ [.row 5 ((srtC cmpA l).map e53)]) (by kernel_rfl) is35 ?_
 refine OpsU.seg' 1 1 (by kernel_rfl) ?_
 refine OpsU.done ⟨callT_eq (by kernel_rfl) (by kernel_rfl) (dcall sort35 hsort), fun d h' hd => ?_⟩
 obtain ⟨rfl, rfl⟩ := hd
 refine Ops.done (by kernel_rfl) ?_
 refine seqH.n ?_
 refine Ht.forget [3] (Ht.st (σ' := Sm 10 [(3, sD H.length (srtC cmpA l).length)] (H ++ [.row 5 ((srtC cmpA l).map e53)])) (by rw [srtC_len]; kernel_rfl) ?_)
 refine Ht.seq (by kernel_rfl) ?_
 have hq2 : (H ++ [AObj.row 5 ((srtC cmpA l).map e53)])[H.length]? = some (.row 5 ((srtC cmpA l).map e53)) := by rw [List.getElem?_append_right (Nat.le_refl _), Nat.sub_self]; rfl
 have hset : hR (H ++ [AObj.row 5 ((srtC cmpA l).map e53)]) H.length (redW l) = H ++ [.row 5 ((redW l).map e53)] := by
  show (H ++ [AObj.row 5 ((srtC cmpA l).map e53)]).set H.length _ = _
  rw [List.set_append_right _ _ (Nat.le_refl _), Nat.sub_self]
  rfl
 refine Ht.regionCall' (hxO n) 1 (t := 9) (args := [.tmp 8, .func 55]) (Qc := fun d h' => d = sD H.length (redW l).length ∧ h' = H ++ [.row 5 ((redW l).map e53)]) (by kernel_rfl) is54 ?_
 refine OpsU.seg' 1 1 (by kernel_rfl) ?_
 refine OpsU.done ⟨callT_eq (by kernel_rfl) (by kernel_rfl) (by
  have := call54 n (H ++ [AObj.row 5 ((srtC cmpA l).map e53)]) H.length (srtC cmpA l) (by rw [srtC_len]; exact hb) hn hq2
  unfold redW at hset ⊢
  rw [hset] at this
  exact this), fun d h' hd => ?_⟩
 obtain ⟨rfl, rfl⟩ := hd
 refine Ops.seg' 1 3 (by kernel_rfl) ?_
 refine Ops.done (by kernel_rfl) ?_
 refine seqH.n ?_
 refine Ht.ret (by kernel_rfl) ?_
 have fin : ∀ σ : St, σ.tmps.getD 2 .undef = sD H.length (redW l).length → resultsD T σ (resOf Proofs.Try.prog 41) = some (sD H.length (redW l).length) := fun σ h4 => by
  rw [hr]; simp only [resultsD, allM, resultD, h4]
 exact ⟨.inr rfl, sD H.length (redW l).length, fin _ (by kernel_rfl), rfl, by kernel_rfl⟩
set_option maxHeartbeats 2000000
def MO : Nat := 60000
def outA (a : S53) : S53 := ⟨a.fFrom, a.fTo, a.fIn, a.fIn, a.fWeight⟩
theorem f19_eq (m : Nat) (a : S53) : f19 m a = some (outA a) := rfl
def isZ (f : S30) : Bool := (f.fCode == 0) && ((f.fIndex == 0) && true)
theorem rowO_c {k : Nat} {xs : List V} (h : xs ≠ []) : rowO k xs = .row k xs := by
 cases xs with
 | nil => exact absurd rfl h
 | cons x r => rfl
theorem rowD_c {q : Nat} {xs : List V} (h : xs ≠ []) : rowF .nil q xs = .osl q 0 xs.length false := by
 cases xs with
 | nil => exact absurd rfl h
 | cons x r => rfl
def pushA (H : List AObj) (q : Nat) (xs : List S53) (x : S53) : List AObj := (if xs = [] then H else H.set q .dead) ++ [.row 5 ((xs ++ [x]).map e53)]
def rD (q : Nat) (xs : List S53) : D := rowF .nil q (xs.map e53)
theorem appA {h : List AObj} {q : Nat} {xs : List S53} {x : S53} (hb : xs.length ≤ 100000) (hq : xs ≠ [] → h[q]? = some (rowO 5 (xs.map e53))) :
  appendD T true 26 h (rD q xs) (.v (.sl .nonfull [e53 x])) = some (.osl h.length 0 (xs.length + 1) false, pushA h q xs x) := by
 have ha : app 40 xs [x] = some (xs ++ [x]) := by
  unfold app
  rw [if_pos ⟨by simp; omega, by simp; unfold maxLen; omega⟩]
 have hne : (xs ++ [x]).map e53 ≠ [] := by simp
 by_cases hf : xs = []
 ·subst hf
  have := row_n (T := T) (g := .nil) h 26 54 ti54 .nonfull e53 [x] ([] ++ [x]) ha (by kernel_rfl) (by kernel_rfl) (by kernel_rfl) (by kernel_rfl) (fun _ => rfl)
  rw [rowD_c hne, rowO_c hne] at this
  exact this
 ·have := row_app (T := T) (g := .nil) h 26 54 q ti54 .nonfull e53 xs [x] (xs ++ [x]) ha (by kernel_rfl) (by kernel_rfl) (by kernel_rfl) (by kernel_rfl) (fun _ => rfl) (hq hf)
  rw [rowD_c hne, rowO_c hne] at this
  unfold pushA
  rw [if_neg hf]
  simpa [rD, show ti54.size = 5 from rfl] using this
theorem pushA_get {H : List AObj} {q : Nat} {xs : List S53} {x : S53} {i : Nat} {v : AObj} (h : H[i]? = some v) (hq : xs = [] ∨ q ≠ i) : (pushA H q xs x)[i]? = some v := by
 unfold pushA
 by_cases hf : xs = []
 ·rw [if_pos hf]
  rw [List.getElem?_append_left (lt_of_getElem? h)]; exact h
 ·rw [if_neg hf]
  have hne : q ≠ i := hq.resolve_left hf
  rw [List.getElem?_append_left (by rw [List.length_set]; exact lt_of_getElem? h), List.getElem?_set_ne hne]; exact h
theorem pushA_len (H : List AObj) (q : Nat) (xs : List S53) (x : S53) : (pushA H q xs x).length = H.length + 1 := by
 unfold pushA; split <;> simp
theorem pushA_new (H : List AObj) (q : Nat) (xs : List S53) (x : S53) : (pushA H q xs x)[H.length]? = some (.row 5 ((xs ++ [x]).map e53)) := by
 unfold pushA
 by_cases hf : xs = []
 ·rw [if_pos hf, List.getElem?_append_right (Nat.le_refl _), Nat.sub_self]; rfl
 ·rw [if_neg hf, List.getElem?_append_right (by rw [List.length_set]; exact Nat.le_refl _), List.length_set, Nat.sub_self]; rfl
noncomputable def C18 : Code := bodyOf Proofs.Try.prog 18
noncomputable abbrev B18 : Code := cL (cR (cR (cR C18)))
noncomputable abbrev E22 : Code := cR (cR (cR (cR C18)))
abbrev zA : List D := [dI 0, dI 0, dI 0, dI 0, dI 0]
abbrev aC (a : S53) : List D := [dI a.fFrom, dI a.fTo, dI a.fIn, dI a.fOut, dI a.fWeight]
abbrev zM3 : List D := [dI 0, .v (.sl .nil []), .v (.sl .nil [])]
abbrev zF2 : List D := [dI 0, dI 0]
abbrev mC (st : Int) (q : Nat) (xs : List S53) (fin : List S58) : List D := [dI st, rD q xs, .v (eL e58 fin)]
abbrev S22 (m : S28) (i : Int) (G : List AObj) : St := Sm 45 [(1, .v (.fn 19)), (4, .ptr 1 0), (5, .ptr 2 0), (7, .ptr 4 0), (24, .v (vP e53 m.fArcs)), (25, dI (m.fArcs.length : Int)), (26, dI i)] G
structure ChI (m : S28) (i q : Nat) (G : List AObj) : Prop where
 z1 : G[1]? = some (.cells zM3)
 z2 : G[2]? = some (.cells zF2)
 c4 : G[4]? = some (.cells (mC m.fStates q ((m.fArcs.take i).map outA) m.fFinals))
 row : 0 < i → 5 ≤ q ∧ G[q]? = some (.row 5 (((m.fArcs.take i).map outA).map e53))
 len : 5 ≤ G.length
theorem change_loop (n : Nat) (hn : 10 ≤ n) (m : S28) (hb : m.fArcs.length ≤ 5000) {Q : Post}
  (hQ : ∀ q G, ChI m m.fArcs.length q G → Ht False Proofs.Try.prog E22 (Sm 45 [(4, .ptr 1 0), (5, .ptr 2 0), (7, .ptr 4 0)] G) Q)
  (G : List AObj) (hG : ChI m 0 0 G) : Ht False Proofs.Try.prog (cR B18) (S22 m 0 G) (seqH False Proofs.Try.prog E22 Q) := by
 refine Ht.block 0 (by kernel_rfl) ?_
 refine Ht.loop (fun k σ => ∃ (i q : Nat) (G : List AObj), k = m.fArcs.length - i ∧ i ≤ m.fArcs.length ∧ ChI m i q G ∧ Abs.forget [1, 4, 5, 7, 24, 25, 26] σ = S22 m (i : Int) G) m.fArcs.length (by kernel_rfl) ⟨0, 0, G, rfl, Nat.zero_le _, hG, by kernel_rfl⟩ ?_
 clear hG G
 rintro k σ ⟨i, q, G, rfl, hi, hG, hσ⟩
 refine Ht.forget [1, 4, 5, 7, 24, 25, 26] (Ht.st hσ ?_)
 clear hσ
 refine Ht.seq (by kernel_rfl) ?_
 refine Ht.region (hxO n) (by kernel_rfl) ?_
 refine Ops.seg' 1 1 (by kernel_rfl) ?_
 refine Ops.done (by kernel_rfl) ?_
 refine seqH.n ?_
 refine Ht.seq (by kernel_rfl) ?_
 refine Ht.cond (decide ((i : Int) < (m.fArcs.length : Int))) (by kernel_rfl) (by kernel_rfl) (fun hc => ?_) (fun hc => ?_)
 case refine_2 =>
  have hc := of_decide_eq_false hc
  have hi2 : i = m.fArcs.length := by omega
  subst hi2
  refine Ht.exit (id := 0) (by kernel_rfl) ?_
  show Ht False Proofs.Try.prog E22 _ Q
  exact Ht.forget [4, 5, 7] (Ht.st (σ' := Sm 45 [(4, .ptr 1 0), (5, .ptr 2 0), (7, .ptr 4 0)] G) (by kernel_rfl) (hQ q G hG))
 have hc := of_decide_eq_true hc
 have hi : i < m.fArcs.length := by omega
 have hw2 : w64 ((i : Int) + 1) = ((i + 1 : Nat) : Int) := by rw [w64_id ⟨by omega, by omega⟩]; omega
 obtain ⟨a, ha⟩ : ∃ a, m.fArcs[i]? = some a := ⟨_, List.getElem?_eq_getElem hi⟩
 have hix : idx m.fArcs (i : Int) = some a := by simp [idx, ha]
 have htk : (m.fArcs.take (i + 1)).map outA = (m.fArcs.take i).map outA ++ [outA a] := by
  rw [List.take_add_one, ha]; simp
 obtain ⟨xs, hxs⟩ : ∃ xs, (m.fArcs.take i).map outA = xs := ⟨_, rfl⟩
 have hxl : xs.length = i := by rw [← hxs]; simp; omega
 obtain ⟨g1, g2, g4, gr, gl⟩ := hG
 rw [hxs] at g4 gr htk
 refine Ht.skip (by kernel_rfl) ?_
 refine seqH.n ?_
 refine Ht.seq (by kernel_rfl) ?_
 refine Ht.block 1 (by kernel_rfl) ?_
 refine Ht.seq (by kernel_rfl) ?_
 refine Ht.region (hxO n) (by kernel_rfl) ?_
 refine Ops.one' 1 (fun h0 e0 => ix_r (T := T) h0 26 54 5 .plain e53 m.fArcs (i : Int) a hix (by kernel_rfl) (by kernel_rfl) (fun _ => rfl)) (by kernel_rfl) (by kernel_rfl) ?_
 refine Ops.seg' 2 3 (by kernel_rfl) ?_
 have z1 : (G ++ [AObj.cells zA])[G.length]? = some (.cells zA) := by rw [List.getElem?_append_right (Nat.le_refl _), Nat.sub_self]; rfl
 refine Ops.one' 4 (fun h0 e0 => stc (i := ti54) (h := h0) (r := G.length) (off := 0) (cs := zA) (cs' := aC a) (x := .v (e53 a)) (hq_of (g := G ++ [AObj.cells zA]) (e0.trans (by kernel_rfl)) z1) (by rfl) (by rfl)) (by kernel_rfl) (by kernel_rfl) ?_
 refine Ops.done (by kernel_rfl) ?_
 refine seqH.n ?_
 obtain ⟨G1, hG1⟩ : ∃ G1, (G ++ [AObj.cells zA]).set G.length (AObj.cells (aC a)) = G1 := ⟨_, rfl⟩
 refine Ht.forget [1, 4, 5, 7, 9, 24, 25, 26] (Ht.st (σ' := Sm 45 [(1, .v (.fn 19)), (4, .ptr 1 0), (5, .ptr 2 0), (7, .ptr 4 0), (9, .ptr G.length 0), (24, .v (vP e53 m.fArcs)), (25, dI (m.fArcs.length : Int)), (26, dI (i : Int))] ((G ++ [AObj.cells zA]).set G.length (AObj.cells (aC a)))) (by kernel_rfl) ?_)
 rw [hG1]
 have l1 : G1.length = G.length + 1 := by rw [← hG1]; simp
 have old : ∀ (j : Nat) v, G[j]? = some v → G1[j]? = some v := fun j v hj => by
  have := lt_of_getElem? hj
  rw [← hG1, List.getElem?_set_ne (by omega), List.getElem?_append_left this]; exact hj
 have b1 : G1[G.length]? = some (.cells (aC a)) := by rw [← hG1]; exact List.getElem?_set_self (by simp)
 have k4 := old 4 _ g4
 have krow : xs ≠ [] → G1[q]? = some (rowO 5 (xs.map e53)) := fun hne => by
  have h0i : 0 < i := by rw [← hxl]; exact List.length_pos_iff.2 hne
  rw [rowO_c (by simpa using hne)]
  exact old q _ (gr h0i).2
 have q5 : xs = [] ∨ 5 ≤ q := by
  by_cases hne : xs = []
  ·exact .inl hne
  ·right
   have h0i : 0 < i := by rw [← hxl]; exact List.length_pos_iff.2 hne
   exact (gr h0i).1
 refine Ht.region (hxO n) (by kernel_rfl) ?_
 refine Ops.seg' 1 1 (by kernel_rfl) ?_
 refine Ops.one' 2 (fun h0 e0 => ldc (i := ti26) (h := h0) (r := 4) (off := 1) (cs := mC m.fStates q xs m.fFinals) (d := rD q xs) (hq_of (g := G1) (e0.trans (by kernel_rfl)) k4) (by rfl)) (by kernel_rfl) (by kernel_rfl) ?_
 refine Ops.seg' 1 3 (by kernel_rfl) ?_
 refine Ops.one' 4 (fun h0 e0 => ldc (i := ti54) (h := h0) (r := G.length) (off := 0) (cs := aC a) (d := .v (e53 a)) (hq_of (g := G1) (e0.trans (by kernel_rfl)) b1) (by rfl)) (by kernel_rfl) (by kernel_rfl) ?_
 refine Ops.one' 5 (fun h0 e0 => call_ok (E' := (XO n).E) (h := h0) (by kernel_rfl) (Args.v (e53 a) (e53 a) (by kernel_rfl) Args.nil) (ok19 0 a (outA a) (f19_eq 0 a) n (by omega))) (by kernel_rfl) (by kernel_rfl) ?_
 refine Ops.seg' 1 6 (by kernel_rfl) ?_
 refine Ops.one' 7 (fun h0 e0 => appA (h := h0) (q := q) (xs := xs) (x := outA a) (by omega) (fun hne => hq_of (g := G1) (e0.trans (by kernel_rfl)) (krow hne))) (by kernel_rfl) (by kernel_rfl) ?_
 refine Ops.seg' 1 8 (by kernel_rfl) ?_
 have p4 : (pushA G1 q xs (outA a))[4]? = some (.cells (mC m.fStates q xs m.fFinals)) := pushA_get k4 (by
  rcases q5 with h | h
  ·exact .inl h
  ·right; omega)
 refine Ops.one' 9 (fun h0 e0 => stc (i := ti26) (h := h0) (r := 4) (off := 1) (cs := mC m.fStates q xs m.fFinals) (cs' := [dI m.fStates, .osl G1.length 0 (xs.length + 1) false, .v (eL e58 m.fFinals)]) (x := .osl G1.length 0 (xs.length + 1) false) (hq_of (g := pushA G1 q xs (outA a)) (e0.trans (by kernel_rfl)) p4) (by rfl) (by rfl)) (by kernel_rfl) (by kernel_rfl) ?_
 refine Ops.done (by kernel_rfl) ?_
 refine blkH.n ?_
 refine seqH.n ?_
 obtain ⟨G2, hG2⟩ : ∃ G2, (pushA G1 q xs (outA a)).set 4 (.cells [dI m.fStates, .osl G1.length 0 (xs.length + 1) false, .v (eL e58 m.fFinals)]) = G2 := ⟨_, rfl⟩
 refine Ht.forget [1, 4, 5, 7, 24, 25, 26] (Ht.st (σ' := S22 m (i : Int) ((pushA G1 q xs (outA a)).set 4 (.cells [dI m.fStates, .osl G1.length 0 (xs.length + 1) false, .v (eL e58 m.fFinals)]))) (by kernel_rfl) ?_)
 rw [hG2]
 refine Ht.region (hxO n) (by kernel_rfl) ?_
 refine Ops.seg' 2 2 (by kernel_rfl) ?_
 refine Ops.done (by kernel_rfl) ?_
 have hrd : rD G1.length (xs ++ [outA a]) = .osl G1.length 0 (xs.length + 1) false := by
  unfold rD
  rw [rowD_c (by simp)]
  simp
 have up : ∀ (j : Nat) v, j ≠ 4 → (xs = [] ∨ q ≠ j) → G1[j]? = some v → G2[j]? = some v := fun j v hj hq hv => by
  rw [← hG2, List.getElem?_set_ne (by omega)]
  exact pushA_get hv hq
 refine ⟨m.fArcs.length - (i + 1), by omega, i + 1, G1.length, G2, rfl, hi, ⟨?_, ?_, ?_, fun _ => ⟨by omega, ?_⟩, ?_⟩, ?_⟩
 ·exact up 1 _ (by omega) (q5.imp (fun h => h) (fun h => by omega)) (old 1 _ g1)
 ·exact up 2 _ (by omega) (q5.imp (fun h => h) (fun h => by omega)) (old 2 _ g2)
 ·rw [htk, ← hG2]
  unfold mC
  rw [hrd]
  exact List.getElem?_set_self (by rw [pushA_len]; omega)
 ·rw [htk, ← hG2, List.getElem?_set_ne (by omega)]
  exact pushA_new G1 q xs (outA a)
 ·rw [← hG2, List.length_set, pushA_len]; omega
 ·have e : ∀ y : Int, y = ((i + 1 : Nat) : Int) → S22 m y G2 = S22 m ((i + 1 : Nat) : Int) G2 := fun y hy => by rw [hy]
  refine Eq.trans ?_ (e _ hw2)
  kernel_rfl
set_option maxHeartbeats 2000000
theorem call53n (n : Nat) (H : List AObj) : CallT False Proofs.Try.prog 53 [.v (.sl .nil [])] H fun d h' => d = .v (.sl .nil []) ∧ h' = H := by
 have hr : resOf Proofs.Try.prog 53 = [.tmp 2] := by kernel_rfl
 refine callT_of_ht (c := bodyOf Proofs.Try.prog 53) (T := T) Proofs.Try.func53 (by kernel_rfl) T_ok ?_
 refine Ht.seq (by kernel_rfl) ?_
 refine Ht.region (hxO n) (by kernel_rfl) ?_
 refine Ops.seg' 1 1 (by kernel_rfl) ?_
 refine Ops.done (by kernel_rfl) ?_
 refine seqH.n ?_
 refine Ht.seq (by kernel_rfl) ?_
 refine Ht.seq (by kernel_rfl) ?_
 refine Ht.region (hxO n) (by kernel_rfl) ?_
 refine Ops.seg' 2 2 (by kernel_rfl) ?_
 refine Ops.done (by kernel_rfl) ?_
 refine seqH.n ?_
 refine Ht.cond true (by kernel_rfl) (by kernel_rfl) (fun _ => ?_) (fun hc => nomatch hc)
 refine Ht.seq (by kernel_rfl) ?_
 refine Ht.region (hxO n) (by kernel_rfl) ?_
 refine Ops.seg' 1 1 (by kernel_rfl) ?_
 refine Ops.done (by kernel_rfl) ?_
 refine seqH.n ?_
 refine Ht.ret (by kernel_rfl) ?_
 refine seqH.r ?_
 have fin : ∀ σ : St, σ.tmps.getD 2 .undef = .v (.sl .nil []) → resultsD T σ (resOf Proofs.Try.prog 53) = some (.v (.sl .nil [])) := fun σ h4 => by
  rw [hr]; simp only [resultsD, allM, resultD, h4]
 exact ⟨.inr rfl, .v (.sl .nil []), fin _ (by kernel_rfl), rfl, by kernel_rfl⟩
theorem call54n (n : Nat) (H : List AObj) : CallT False Proofs.Try.prog 54 [.v (.sl .nil []), .v (.fn 55)] H fun d h' => d = .v (.sl .nil []) ∧ h' = H := by
 have hr : resOf Proofs.Try.prog 54 = [.tmp 4] := by kernel_rfl
 refine callT_of_ht (c := C54) (T := T) Proofs.Try.func54 (by kernel_rfl) T_ok ?_
 show Ht False Proofs.Try.prog C54 _ _
 refine Ht.seq (by kernel_rfl) ?_
 refine Ht.region (hxC n) (by kernel_rfl) ?_
 refine Ops.seg' 1 1 (by kernel_rfl) ?_
 refine Ops.done (by kernel_rfl) ?_
 refine seqH.n ?_
 refine Ht.seq (by kernel_rfl) ?_
 refine Ht.seq (by kernel_rfl) ?_
 refine Ht.region (hxC n) (by kernel_rfl) ?_
 refine Ops.seg' 3 3 (by kernel_rfl) ?_
 refine Ops.done (by kernel_rfl) ?_
 refine seqH.n ?_
 refine Ht.cond true (by kernel_rfl) (by kernel_rfl) (fun _ => ?_) (fun hc => nomatch hc)
 refine Ht.seq (by kernel_rfl) ?_
 refine Ht.region (hxC n) (by kernel_rfl) ?_
 refine Ops.seg' 2 2 (by kernel_rfl) ?_
 refine Ops.done (by kernel_rfl) ?_
 refine seqH.n ?_
 refine Ht.ret (by kernel_rfl) ?_
 refine seqH.r ?_
 have fin : ∀ σ : St, σ.tmps.getD 4 .undef = .v (.sl .nil []) → resultsD T σ (resOf Proofs.Try.prog 54) = some (.v (.sl .nil [])) := fun σ h4 => by
  rw [hr]; simp only [resultsD, allM, resultD, h4]
 exact ⟨.inr rfl, .v (.sl .nil []), fin _ (by kernel_rfl), rfl, by kernel_rfl⟩
theorem call41n (n : Nat) (H : List AObj) : CallT False Proofs.Try.prog 41 [.v (.sl .nil [])] H fun d h' => d = .v (.sl .nil []) ∧ h' = H := by
 have hr : resOf Proofs.Try.prog 41 = [.tmp 2] := by kernel_rfl
 refine callT_of_ht (c := bodyOf Proofs.Try.prog 41) (T := T) Proofs.Try.func41 (by kernel_rfl) T_ok ?_
 refine Ht.seq (by kernel_rfl) ?_
 refine Ht.region (hxO n) (by kernel_rfl) ?_
 refine Ops.seg' 1 1 (by kernel_rfl) ?_
 refine Ops.done (by kernel_rfl) ?_
 refine seqH.n ?_
 refine Ht.seq (by kernel_rfl) ?_
 refine Ht.regionCall' (hxO n) 1 (t := 5) (args := [.tmp 4]) (Qc := fun d h' => d = .v (.sl .nil []) ∧ h' = H) (by kernel_rfl) is53 ?_
 refine OpsU.seg' 1 1 (by kernel_rfl) ?_
 refine OpsU.done ⟨callT_eq (by kernel_rfl) (by kernel_rfl) (call53n n H), fun d h' hd => ?_⟩
 obtain ⟨rfl, hd2⟩ := hd
 replace hd2 := hd2.symm
 subst hd2
 refine Ops.seg' 1 3 (by kernel_rfl) ?_
 refine Ops.done (by kernel_rfl) ?_
 refine seqH.n ?_
 refine Ht.seq (by kernel_rfl) ?_
 refine Ht.regionCall' (hxO n) 1 (t := 7) (args := [.tmp 6, .func 36]) (Qc := fun d h' => d = U ∧ h' = H) (by kernel_rfl) is35 ?_
 refine OpsU.seg' 1 1 (by kernel_rfl) ?_
 refine OpsU.done ⟨callT_eq (by kernel_rfl) (by kernel_rfl) (dcall sort35 (ds := [.v (.sl .nil []), .v (.fn 36)]) (hp := H) (hp' := H) (d := U) rfl), fun d h' hd => ?_⟩
 obtain ⟨rfl, hd2⟩ := hd
 replace hd2 := hd2.symm
 subst hd2
 refine Ops.done (by kernel_rfl) ?_
 refine seqH.n ?_
 refine Ht.seq (by kernel_rfl) ?_
 refine Ht.regionCall' (hxO n) 1 (t := 9) (args := [.tmp 8, .func 55]) (Qc := fun d h' => d = .v (.sl .nil []) ∧ h' = H) (by kernel_rfl) is54 ?_
 refine OpsU.seg' 1 1 (by kernel_rfl) ?_
 refine OpsU.done ⟨callT_eq (by kernel_rfl) (by kernel_rfl) (call54n n H), fun d h' hd => ?_⟩
 obtain ⟨rfl, hd2⟩ := hd
 replace hd2 := hd2.symm
 subst hd2
 refine Ops.seg' 1 3 (by kernel_rfl) ?_
 refine Ops.done (by kernel_rfl) ?_
 refine seqH.n ?_
 refine Ht.ret (by kernel_rfl) ?_
 have fin : ∀ σ : St, σ.tmps.getD 2 .undef = .v (.sl .nil []) → resultsD T σ (resOf Proofs.Try.prog 41) = some (.v (.sl .nil [])) := fun σ h4 => by
  rw [hr]; simp only [resultsD, allM, resultD, h4]
 exact ⟨.inr rfl, .v (.sl .nil []), fin _ (by kernel_rfl), rfl, by kernel_rfl⟩
def OQ (m : S28) (f : S30) : Post := fun e σ => (e = .normal ∨ e = .ret) ∧ ∃ d, resultsD T σ (resOf Proofs.Try.prog 18) = some d ∧ frz σ.heap 15 d = some (.tuple [e28 m, e30 f])
theorem OQ.of {m : S28} {f : S30} {σ : St} {cs : List D} {a : D} (h4 : σ.tmps.getD 4 .undef = .ptr 1 0) (h5 : σ.tmps.getD 5 .undef = .ptr 2 0) (hm : σ.heap[1]? = some (.cells cs)) (ha : (cut cs 0 ti29.size).bind (mkOf ti29.kind.isAgg) = some a)
  (hf : σ.heap[2]? = some (.cells [dI f.fCode, dI f.fIndex])) (hz : frz σ.heap 15 (mkTuple [a, .v (e30 f)]) = some (.tuple [e28 m, e30 f])) : OQ m f .ret σ := by
 have hr : resOf Proofs.Try.prog 18 = [.cell 4 29, .cell 5 31] := by kernel_rfl
 have hT : T 29 = some ti29 := rfl
 have hT2 : T 31 = some ti31 := rfl
 have hc : (cut [dI f.fCode, dI f.fIndex] 0 ti31.size).bind (mkOf ti31.kind.isAgg) = some (.v (e30 f)) := rfl
 refine ⟨.inr rfl, mkTuple [a, .v (e30 f)], ?_, hz⟩
 rw [hr]
 simp only [resultsD, allM, resultD, hT, hT2, h4, h5, loadD, hm, hf, ha, hc]
theorem change_end (n : Nat) (hn : 10 ≤ n) (m : S28) (hb : m.fArcs.length ≤ 5000) (q : Nat) (G : List AObj) (hG : ChI m m.fArcs.length q G) :
  Ht False Proofs.Try.prog E22 (Sm 45 [(4, .ptr 1 0), (5, .ptr 2 0), (7, .ptr 4 0)] G) (OQ ⟨m.fStates, redW (m.fArcs.map outA), m.fFinals⟩ ⟨0, 0⟩) := by
 obtain ⟨g1, g2, g4, gr, gl⟩ := hG
 rw [List.take_length] at g4 gr
 obtain ⟨xs, hxs⟩ : ∃ xs, m.fArcs.map outA = xs := ⟨_, rfl⟩
 have hxl : xs.length = m.fArcs.length := by rw [← hxs]; simp
 rw [hxs] at g4 gr ⊢
 by_cases hne : xs = []
 ·subst hne
  have hr0 : redW [] = [] := by simp [redW, srtC, compactL]
  rw [hr0]
  refine Ht.seq (by kernel_rfl) ?_
  refine Ht.regionCall' (hxO n) 2 (t := 41) (args := [.tmp 40]) (Qc := fun d h' => d = .v (.sl .nil []) ∧ h' = G) (by kernel_rfl) is41 ?_
  refine OpsU.seg' 1 1 (by kernel_rfl) ?_
  refine OpsU.one' 2 (fun h0 e0 => ldc (i := ti26) (h := h0) (r := 4) (off := 1) (cs := mC m.fStates q [] m.fFinals) (d := .v (.sl .nil [])) (hq_of (g := G) (e0.trans (by kernel_rfl)) g4) (by rfl)) (by kernel_rfl) (by kernel_rfl) ?_
  refine OpsU.done ⟨callT_eq (by kernel_rfl) (by kernel_rfl) (call41n n G), fun d h' hd => ?_⟩
  obtain ⟨rfl, rfl⟩ := hd
  refine Ops.seg' 1 4 (by kernel_rfl) ?_
  refine Ops.one' 5 (fun h0 e0 => stc (i := ti26) (h := h0) (r := 4) (off := 1) (cs := mC m.fStates q [] m.fFinals) (cs' := [dI m.fStates, .v (.sl .nil []), .v (eL e58 m.fFinals)]) (x := .v (.sl .nil [])) (hq_of (g := h') (e0.trans (by kernel_rfl)) g4) (by rfl) (by rfl)) (by kernel_rfl) (by kernel_rfl) ?_
  refine Ops.done (by kernel_rfl) ?_
  refine seqH.n ?_
  obtain ⟨G2, hG2⟩ : ∃ G2, h'.set 4 (.cells [dI m.fStates, .v (.sl .nil []), .v (eL e58 m.fFinals)]) = G2 := ⟨_, rfl⟩
  refine Ht.forget [4, 5, 7] (Ht.st (σ' := Sm 45 [(4, .ptr 1 0), (5, .ptr 2 0), (7, .ptr 4 0)] (h'.set 4 (.cells [dI m.fStates, .v (.sl .nil []), .v (eL e58 m.fFinals)]))) (by kernel_rfl) ?_)
  rw [hG2]
  have k1 : G2[1]? = some (.cells zM3) := by rw [← hG2, List.getElem?_set_ne (by omega)]; exact g1
  have k2 : G2[2]? = some (.cells zF2) := by rw [← hG2, List.getElem?_set_ne (by omega)]; exact g2
  have k4 : G2[4]? = some (.cells [dI m.fStates, .v (.sl .nil []), .v (eL e58 m.fFinals)]) := by rw [← hG2]; exact List.getElem?_set_self (by omega)
  refine Ht.seq (by kernel_rfl) ?_
  refine Ht.region (hxO n) (by kernel_rfl) ?_
  refine Ops.one' 1 (fun h0 e0 => ldc (i := ti29) (h := h0) (r := 4) (off := 0) (cs := [dI m.fStates, .v (.sl .nil []), .v (eL e58 m.fFinals)]) (d := .v (.agg [vI m.fStates, .sl .nil [], eL e58 m.fFinals])) (hq_of (g := G2) (e0.trans (by kernel_rfl)) k4) (by rfl)) (by kernel_rfl) (by kernel_rfl) ?_
  refine Ops.seg' 1 2 (by kernel_rfl) ?_
  refine Ops.one' 3 (fun h0 e0 => stc (i := ti29) (h := h0) (r := 1) (off := 0) (cs := zM3) (cs' := [dI m.fStates, .v (.sl .nil []), .v (eL e58 m.fFinals)]) (x := .v (.agg [vI m.fStates, .sl .nil [], eL e58 m.fFinals])) (hq_of (g := G2) (e0.trans (by kernel_rfl)) k1) (by rfl) (by rfl)) (by kernel_rfl) (by kernel_rfl) ?_
  have l1 : (G2.set 1 (.cells [dI m.fStates, .v (.sl .nil []), .v (eL e58 m.fFinals)]))[2]? = some (.cells zF2) := by rw [List.getElem?_set_ne (by omega)]; exact k2
  refine Ops.one' 4 (fun h0 e0 => stc (i := ti31) (h := h0) (r := 2) (off := 0) (cs := zF2) (cs' := zF2) (x := .v (.agg [vI 0, vI 0])) (hq_of (g := G2.set 1 (.cells [dI m.fStates, .v (.sl .nil []), .v (eL e58 m.fFinals)])) (e0.trans (by kernel_rfl)) l1) (by rfl) (by rfl)) (by kernel_rfl) (by kernel_rfl) ?_
  refine Ops.done (by kernel_rfl) ?_
  refine seqH.n ?_
  refine Ht.ret (by kernel_rfl) ?_
  have hh : ∀ σ : St, σ.heap = (G2.set 1 (.cells [dI m.fStates, .v (.sl .nil []), .v (eL e58 m.fFinals)])).set 2 (.cells zF2) → σ.heap[1]? = some (.cells [dI m.fStates, .v (.sl .nil []), .v (eL e58 m.fFinals)]) ∧ σ.heap[2]? = some (.cells [dI 0, dI 0]) := fun σ e => by
   rw [e]
   have := lt_of_getElem? k2
   exact ⟨by rw [List.getElem?_set_ne (by omega)]; exact List.getElem?_set_self (by omega), List.getElem?_set_self (by rw [List.length_set]; exact this)⟩
  exact OQ.of (f := ⟨0, 0⟩) (by kernel_rfl) (by kernel_rfl) (hh _ (by kernel_rfl)).1 (a := .v (.agg [vI m.fStates, .sl .nil [], eL e58 m.fFinals])) (by rfl) (hh _ (by kernel_rfl)).2 (by rfl)
 ·have hpos : 0 < m.fArcs.length := by rw [← hxl]; exact List.length_pos_iff.2 hne
  obtain ⟨q5, grow⟩ := gr hpos
  have hrd : rD q xs = sD q xs.length := by
   unfold rD
   rw [rowD_c (by simpa using hne), List.length_map]
  have g4' : G[4]? = some (.cells [dI m.fStates, sD q xs.length, .v (eL e58 m.fFinals)]) := by
   rw [← hrd]; exact g4
  obtain ⟨ys, hys⟩ : ∃ ys, redW xs = ys := ⟨_, rfl⟩
  have hcall := call41 n G q xs hne (by omega) hn grow
  rw [hys] at hcall ⊢
  refine Ht.seq (by kernel_rfl) ?_
  refine Ht.regionCall' (hxO n) 2 (t := 41) (args := [.tmp 40]) (Qc := fun d h' => d = sD G.length ys.length ∧ h' = G ++ [.row 5 (ys.map e53)]) (by kernel_rfl) is41 ?_
  refine OpsU.seg' 1 1 (by kernel_rfl) ?_
  refine OpsU.one' 2 (fun h0 e0 => ldc (i := ti26) (h := h0) (r := 4) (off := 1) (cs := [dI m.fStates, sD q xs.length, .v (eL e58 m.fFinals)]) (d := sD q xs.length) (hq_of (g := G) (e0.trans (by kernel_rfl)) g4') (by rfl)) (by kernel_rfl) (by kernel_rfl) ?_
  refine OpsU.done ⟨callT_eq (by kernel_rfl) (by kernel_rfl) hcall, fun d h' hd => ?_⟩
  obtain ⟨rfl, rfl⟩ := hd
  have p4 : (G ++ [AObj.row 5 (ys.map e53)])[4]? = some (.cells [dI m.fStates, sD q xs.length, .v (eL e58 m.fFinals)]) := by rw [List.getElem?_append_left (by omega)]; exact g4'
  refine Ops.seg' 1 4 (by kernel_rfl) ?_
  refine Ops.one' 5 (fun h0 e0 => stc (i := ti26) (h := h0) (r := 4) (off := 1) (cs := [dI m.fStates, sD q xs.length, .v (eL e58 m.fFinals)]) (cs' := [dI m.fStates, sD G.length ys.length, .v (eL e58 m.fFinals)]) (x := sD G.length ys.length) (hq_of (g := G ++ [AObj.row 5 (ys.map e53)]) (e0.trans (by kernel_rfl)) p4) (by rfl) (by rfl)) (by kernel_rfl) (by kernel_rfl) ?_
  refine Ops.done (by kernel_rfl) ?_
  refine seqH.n ?_
  obtain ⟨G2, hG2⟩ : ∃ G2, (G ++ [AObj.row 5 (ys.map e53)]).set 4 (.cells [dI m.fStates, sD G.length ys.length, .v (eL e58 m.fFinals)]) = G2 := ⟨_, rfl⟩
  refine Ht.forget [4, 5, 7] (Ht.st (σ' := Sm 45 [(4, .ptr 1 0), (5, .ptr 2 0), (7, .ptr 4 0)] ((G ++ [AObj.row 5 (ys.map e53)]).set 4 (.cells [dI m.fStates, sD G.length ys.length, .v (eL e58 m.fFinals)]))) (by kernel_rfl) ?_)
  rw [hG2]
  have k1 : G2[1]? = some (.cells zM3) := by rw [← hG2, List.getElem?_set_ne (by omega), List.getElem?_append_left (by omega)]; exact g1
  have k2 : G2[2]? = some (.cells zF2) := by rw [← hG2, List.getElem?_set_ne (by omega), List.getElem?_append_left (by omega)]; exact g2
  have k4 : G2[4]? = some (.cells [dI m.fStates, sD G.length ys.length, .v (eL e58 m.fFinals)]) := by rw [← hG2]; exact List.getElem?_set_self (by simp; omega)
  have kr : G2[G.length]? = some (.row 5 (ys.map e53)) := by rw [← hG2, List.getElem?_set_ne (by omega), List.getElem?_append_right (Nat.le_refl _), Nat.sub_self]; rfl
  refine Ht.seq (by kernel_rfl) ?_
  refine Ht.region (hxO n) (by kernel_rfl) ?_
  refine Ops.one' 1 (fun h0 e0 => ldc (i := ti29) (h := h0) (r := 4) (off := 0) (cs := [dI m.fStates, sD G.length ys.length, .v (eL e58 m.fFinals)]) (d := .agg [dI m.fStates, sD G.length ys.length, .v (eL e58 m.fFinals)]) (hq_of (g := G2) (e0.trans (by kernel_rfl)) k4) (by rfl)) (by kernel_rfl) (by kernel_rfl) ?_
  refine Ops.seg' 1 2 (by kernel_rfl) ?_
  refine Ops.one' 3 (fun h0 e0 => stc (i := ti29) (h := h0) (r := 1) (off := 0) (cs := zM3) (cs' := [dI m.fStates, sD G.length ys.length, .v (eL e58 m.fFinals)]) (x := .agg [dI m.fStates, sD G.length ys.length, .v (eL e58 m.fFinals)]) (hq_of (g := G2) (e0.trans (by kernel_rfl)) k1) (by rfl) (by rfl)) (by kernel_rfl) (by kernel_rfl) ?_
  have l1 : (G2.set 1 (.cells [dI m.fStates, sD G.length ys.length, .v (eL e58 m.fFinals)]))[2]? = some (.cells zF2) := by rw [List.getElem?_set_ne (by omega)]; exact k2
  refine Ops.one' 4 (fun h0 e0 => stc (i := ti31) (h := h0) (r := 2) (off := 0) (cs := zF2) (cs' := zF2) (x := .v (.agg [vI 0, vI 0])) (hq_of (g := G2.set 1 (.cells [dI m.fStates, sD G.length ys.length, .v (eL e58 m.fFinals)])) (e0.trans (by kernel_rfl)) l1) (by rfl) (by rfl)) (by kernel_rfl) (by kernel_rfl) ?_
  refine Ops.done (by kernel_rfl) ?_
  refine seqH.n ?_
  refine Ht.ret (by kernel_rfl) ?_
  obtain ⟨G3, hG3⟩ : ∃ G3, (G2.set 1 (.cells [dI m.fStates, sD G.length ys.length, .v (eL e58 m.fFinals)])).set 2 (.cells zF2) = G3 := ⟨_, rfl⟩
  have hh : ∀ σ : St, σ.heap = (G2.set 1 (.cells [dI m.fStates, sD G.length ys.length, .v (eL e58 m.fFinals)])).set 2 (.cells zF2) → σ.heap[1]? = some (.cells [dI m.fStates, sD G.length ys.length, .v (eL e58 m.fFinals)]) ∧ σ.heap[2]? = some (.cells [dI 0, dI 0]) ∧ σ.heap[G.length]? = some (.row 5 (ys.map e53)) := fun σ e => by
   rw [e]
   have := lt_of_getElem? k2
   exact ⟨by rw [List.getElem?_set_ne (by omega)]; exact List.getElem?_set_self (by omega), List.getElem?_set_self (by rw [List.length_set]; exact this), by rw [List.getElem?_set_ne (by omega), List.getElem?_set_ne (by omega)]; exact kr⟩
  have e1 : ∀ hp : List AObj, hp[G.length]? = some (.row 5 (ys.map e53)) → frz hp 15 (mkTuple [.agg [dI m.fStates, sD G.length ys.length, .v (eL e58 m.fFinals)], .v (e30 ⟨0, 0⟩)]) = some (.tuple [e28 ⟨m.fStates, ys, m.fFinals⟩, e30 ⟨0, 0⟩]) := fun hp hq => by
   have a1 : frz hp 13 (sD G.length ys.length) = some (.sl .plain (ys.map e53)) := by
    simp only [frz, hq]
    rw [if_pos (by rw [List.length_map]; omega), List.drop_zero, List.take_of_length_le (by rw [List.length_map]; exact Nat.le_refl _)]
   have a2 : frz hp 13 (dI m.fStates) = some (vI m.fStates) := rfl
   have a3 : frz hp 13 (.v (eL e58 m.fFinals)) = some (eL e58 m.fFinals) := rfl
   have a4 : frz hp 14 (.v (e30 ⟨0, 0⟩)) = some (e30 ⟨0, 0⟩) := rfl
   have a5 : frz hp 14 (.agg [dI m.fStates, sD G.length ys.length, .v (eL e58 m.fFinals)]) = some (e28 ⟨m.fStates, ys, m.fFinals⟩) := by
    show ((allM (frz hp 13) [dI m.fStates, sD G.length ys.length, .v (eL e58 m.fFinals)]).map V.agg) = _
    simp only [allM, a1, a2, a3, Option.map_some]
    rfl
   show ((allM (frz hp 14) [.agg [dI m.fStates, sD G.length ys.length, .v (eL e58 m.fFinals)], .v (e30 ⟨0, 0⟩)]).map V.tuple) = _
   simp only [allM, a4, a5, Option.map_some]
  exact OQ.of (f := ⟨0, 0⟩) (by kernel_rfl) (by kernel_rfl) (hh _ (by kernel_rfl)).1 (a := .agg [dI m.fStates, sD G.length ys.length, .v (eL e58 m.fFinals)]) (by rfl) (hh _ (by kernel_rfl)).2.1 (e1 _ (hh _ (by kernel_rfl)).2.2)
end Go.Abs.Rd
namespace Go.Abs.En
open Go.Sort Go.Proofs
theorem calls_of_ht {DR : Prop} {P : Program} {f : Nat} {fn : Func} {c : Code} {T : Nat → Option TI} (hfn : P.funcs[f]? = some fn) (hc : fn.body = some c) (hT : ∀ t i, T t = some i → tiOf P t = some i) {xs : List V} {r : V} {N : Nat}
  (ht : Ht DR P (bodyOf P f) (startIn P f (xs.map .v) []) (fun e σ => (e = .normal ∨ e = .ret) ∧ ∃ d, resultsD T σ (resOf P f) = some d ∧ frz σ.heap N d = some r)) {S : Nat → Nat → Prop} {w : World} {us : Array Value} (hrel : RelL S [] w us (xs.map .v)) (hS : ∀ b i, S b i → b < w.heap.size) (hG : Glob S w) :
  Calls P f us w fun e w' => ∃ v S', e = .returned v ∧ Ext DR S [] w S' [] w' ∧ HInv S' [] w' [] ∧ RelV S' w' v r := by
 have hi := hinv_nil hS hG
 refine (callT_of_ht (Qc := fun d h' => frz h' N d = some r) hfn hc hT ht S [] w us hrel hi).mono ?_
 rintro e w' ⟨d, h', v, S1, β1, hz, rfl, hE1, hI1, hR1⟩
 have hin : ∀ b i, withOwn S1 β1 h' b i → S b i ∨ w.heap.size ≤ b := by
  intro b i hs
  rcases hs with hs | ⟨q, o, c, k, g1, g2, g3⟩
  ·rcases hE1.stay b i hs with g | g | ⟨q, c, k, g⟩
   ·exact .inl g
   ·exact .inr g
   ·simp at g
  ·obtain ⟨k', rfl⟩ := hI1.kpos g1 g2 g3
   rcases hE1.fresh q b c k' g3 with g | ⟨q', c', k'', g⟩
   ·exact .inr g
   ·simp at g
 obtain ⟨b1, b2⟩ := back_from (S' := withOwn S1 β1 h') (h1 := h') hi hE1 (fun _ _ h => h) (fun b i hs => .inl (hE1.keeps b i hs).1) hin (own_sb hI1)
 exact ⟨v, _, rfl, b1, b2, frz_sound hI1 N _ _ _ hz hR1⟩
end Go.Abs.En
namespace Go.Abs.Rd
open Go.Sort Go.Proofs
set_option linter.unusedVariables false
set_option maxRecDepth 100000
set_option maxHeartbeats 2000000
theorem _root_.Go.Abs.Ht.regionF {DR : Prop} {P : Program} {X : Cx} {c : Code} {σ : St} {Q : Post} (H : Hx DR P X) (hc : regionFar X.E σ c = true) (h : Ops X (opl c) 0 σ (Q .normal)) : Ht DR P c σ Q := .of_wp H (Wp.regionF hc h)
def outM (m : S28) (f : S30) : S28 × S30 := if isZ f = true then (⟨m.fStates, redW (m.fArcs.map outA), m.fFinals⟩, ⟨0, 0⟩) else (⟨0, [], []⟩, f)
theorem change22 (n : Nat) (hn : n = 2 * MO + 30) (m : S28) (f : S30) (hf : f22 MO m = some f) (hb : m.fArcs.length ≤ 5000) (hfin : m.fFinals.length ≤ 5000) :
  Ht False Proofs.Try.prog C18 (startIn Proofs.Try.prog 18 [.v (e28 m), .v (.fn 19)] []) (OQ (outM m f).1 (outM m f).2) := by
 refine Ht.seq (by kernel_rfl) ?_
 refine Ht.region (hxO n) (by kernel_rfl) ?_
 refine Ops.seg' 3 3 (by kernel_rfl) ?_
 refine Ops.done (by kernel_rfl) ?_
 refine seqH.n ?_
 refine Ht.seq (by kernel_rfl) ?_
 refine Ht.seq (by kernel_rfl) ?_
 refine Ht.region (hxO n) (by kernel_rfl) ?_
 refine Ops.seg' 1 1 (by kernel_rfl) ?_
 refine Ops.one' 2 (fun h0 e0 => call_ok (E' := (XO n).E) (h := h0) (by kernel_rfl) (Args.v (e28 m) (e28 m) (by kernel_rfl) Args.nil) (ok22 MO m f hf n (by omega))) (by kernel_rfl) (by kernel_rfl) ?_
 refine Ops.seg' 2 4 (by kernel_rfl) ?_
 refine Ops.done (by kernel_rfl) ?_
 refine seqH.n ?_
 let mc : AObj := .cells [dI m.fStates, .v (vP e53 m.fArcs), .v (vP e58 m.fFinals)]
 refine Ht.forget [1, 2, 4, 5, 6] (Ht.st (σ' := Sm 45 [(1, .v (.fn 19)), (2, .ptr 0 0), (4, .ptr 1 0), (5, .ptr 2 0), (6, .ptr 3 0)] [mc, .cells zM3, .cells zF2, .cells [dI f.fCode, dI f.fIndex]]) (by kernel_rfl) ?_)
 refine Ht.seq (by kernel_rfl) ?_
 refine Ht.region (hxO n) (by kernel_rfl) ?_
 refine Ops.seg' 3 3 (by kernel_rfl) ?_
 refine Ops.done (by kernel_rfl) ?_
 refine seqH.n ?_
 refine Ht.cond (!isZ f) (by kernel_rfl) (by kernel_rfl) (fun hc => ?_) (fun hc => ?_)
 ·have hz : ¬ isZ f = true := by simpa using hc
  unfold outM
  rw [if_neg hz]
  refine Ht.seq (by kernel_rfl) ?_
  refine Ht.regionF (hxO n) (by kernel_rfl) ?_
  refine Ops.seg' 4 4 (by kernel_rfl) ?_
  refine Ops.done (by kernel_rfl) ?_
  refine seqH.n ?_
  refine Ht.ret (by kernel_rfl) ?_
  refine seqH.r ?_
  exact OQ.of (m := ⟨0, [], []⟩) (f := f) (by kernel_rfl) (by kernel_rfl) (cs := zM3) (a := .v (.agg [vI 0, .sl .nil [], .sl .nil []])) (by kernel_rfl) (by rfl) (by kernel_rfl) (by rfl)
 ·have hz : isZ f = true := by simpa using hc
  unfold outM
  rw [if_pos hz]
  have hcl : f40 MO m.fFinals = some m.fFinals := by
   unfold f40 app
   rw [if_pos ⟨by simp; omega, by simp; unfold maxLen; omega⟩]
   rfl
  refine Ht.skip (by kernel_rfl) ?_
  refine seqH.n ?_
  refine Ht.seq (by kernel_rfl) ?_
  refine Ht.region (hxO n) (by kernel_rfl) ?_
  refine Ops.seg' 4 4 (by kernel_rfl) ?_
  refine Ops.one' 5 (fun h0 e0 => call_ok (E' := (XO n).E) (h := h0) (by kernel_rfl) (Args.v (vP e58 m.fFinals) ((eL e58) m.fFinals) (by kernel_rfl) Args.nil) (ok40 MO m.fFinals m.fFinals hcl n (by omega))) (by kernel_rfl) (by kernel_rfl) ?_
  refine Ops.seg' 3 8 (by kernel_rfl) ?_
  refine Ops.done (by kernel_rfl) ?_
  refine seqH.n ?_
  refine Ht.seq (by kernel_rfl) ?_
  refine Ht.forget [1, 2, 4, 5, 7] (Ht.st (σ' := Sm 45 [(1, .v (.fn 19)), (2, .ptr 0 0), (4, .ptr 1 0), (5, .ptr 2 0), (7, .ptr 4 0)] [mc, .cells zM3, .cells zF2, .cells [dI f.fCode, dI f.fIndex], .cells (mC m.fStates 0 [] m.fFinals)]) (by kernel_rfl) ?_)
  refine Ht.seq (by kernel_rfl) ?_
  refine Ht.region (hxO n) (by kernel_rfl) ?_
  refine Ops.seg' 2 2 (by kernel_rfl) ?_
  refine Ops.one' 3 (fun h0 e0 => len_r (T := T) h0 26 54 .plain e53 m.fArcs (by kernel_rfl)) (by kernel_rfl) (by kernel_rfl) ?_
  refine Ops.seg' 1 4 (by kernel_rfl) ?_
  refine Ops.done (by kernel_rfl) ?_
  refine seqH.n ?_
  refine Ht.forget [1, 4, 5, 7, 24, 25, 26] (Ht.st (σ' := S22 m 0 [mc, .cells zM3, .cells zF2, .cells [dI f.fCode, dI f.fIndex], .cells (mC m.fStates 0 [] m.fFinals)]) (by kernel_rfl) ?_)
  exact change_loop n (by rw [hn]; omega) m hb (fun q G hG => change_end n (by rw [hn]; omega) m hb q G hG) _ ⟨rfl, rfl, rfl, fun h => absurd h (Nat.lt_irrefl _), Nat.le_refl _⟩
theorem e61_inj {a b : S53} (h : e53 a = e53 b) : a = b := by
 obtain ⟨a1, a2, a3, a4, a5⟩ := a
 obtain ⟨b1, b2, b3, b4, b5⟩ := b
 simp only [e53, V.agg.injEq, List.cons.injEq, V.int.injEq, true_and, and_true] at h
 obtain ⟨h1, h2, h3, h4, h5⟩ := h
 rw [h1, h2, h3, h4, h5]
theorem e52_inj {a b : S58} (h : e58 a = e58 b) : a = b := by
 obtain ⟨a1, a2⟩ := a
 obtain ⟨b1, b2⟩ := b
 simp only [e58, V.agg.injEq, List.cons.injEq, V.int.injEq, true_and, and_true] at h
 rw [h.1, h.2]
theorem map_inj' {α : Type} {e : α → V} (he : ∀ a b, e a = e b → a = b) : ∀ {a b : List α}, a.map e = b.map e → a = b
 | [], [], _ => rfl
 | [], _ :: _, h => by cases h
 | _ :: _, [], h => by cases h
 | x :: r, y :: s, h => by
  rw [List.map_cons, List.map_cons, List.cons.injEq] at h
  rw [he _ _ h.1, map_inj' he h.2]
theorem e29_inj {a b : S28} (h : e28 a = e28 b) : a = b := by
 obtain ⟨a1, a2, a3⟩ := a
 obtain ⟨b1, b2, b3⟩ := b
 simp only [e28, V.agg.injEq, List.cons.injEq, V.int.injEq, V.sl.injEq, true_and, and_true] at h
 obtain ⟨h1, h2, h3⟩ := h
 rw [h1, map_inj' (fun _ _ => e61_inj) h2, map_inj' (fun _ _ => e52_inj) h3]
def OkO (m : S28) : Prop := m.fArcs.length ≤ 5000 ∧ m.fFinals.length ≤ 5000
open Classical in
noncomputable def f22F (m : S28) : Option (S28 × S30) := if OkO m then (f22 MO m).map (outM m) else none
open Classical in
noncomputable def F18 (vs : List V) : Option V := if h : ∃ m : S28, vs = [e28 m, .fn 19] then (f22F (Classical.choose h)).map fun o => .tuple [e28 o.1, e30 o.2] else none
theorem F18_eq (m : S28) : F18 [e28 m, .fn 19] = (f22F m).map fun o => .tuple [e28 o.1, e30 o.2] := by
 have h : ∃ m' : S28, [e28 m, V.fn 19] = [e28 m', .fn 19] := ⟨m, rfl⟩
 unfold F18
 rw [dif_pos h]
 have hs := Classical.choose_spec h
 generalize Classical.choose h = m' at hs
 rw [e29_inj (List.cons.inj hs).1]
theorem is18 : Is Proofs.Try.prog 18 := ⟨Proofs.Try.f18, Proofs.Try.func18, by kernel_rfl, by kernel_rfl⟩
theorem ora18 : OraOk False Proofs.Try.prog 18 F18 := by
 refine ⟨is18, fun vs r hF S w us hrel hs hg => ?_⟩
 have hF0 := hF
 unfold F18 at hF
 split at hF
 case isFalse => cases hF
 rename_i h
 obtain ⟨m, rfl⟩ := h
 rw [F18_eq] at hF0
 obtain ⟨o, ho, rfl⟩ := Option.map_eq_some_iff.1 hF0
 unfold f22F at ho
 split at ho
 case isFalse => cases ho
 rename_i hok
 obtain ⟨f, hf, rfl⟩ := Option.map_eq_some_iff.1 ho
 exact En.calls_of_ht (c := C18) (T := T) (N := 15) (xs := [e28 m, .fn 19]) (r := .tuple [e28 (outM m f).1, e30 (outM m f).2]) Proofs.Try.func18 (by kernel_rfl) T_ok (change22 (2 * MO + 30) rfl m f hf hok.1 hok.2) hrel hs hg
end Go.Abs.Rd
