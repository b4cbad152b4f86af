import Derived.Test.YtmoiipfomcgomaaGreatDoorCE
import Derived.Test.YtmoiipfomcgomaaGreatDoorWF1c
namespace Go.Abs.Rd
open Go.Sort Go.Proofs
set_option linter.unusedVariables false
set_option maxRecDepth 100000
def eqW (x y : S61) : Bool := (((x.fFrom == y.fFrom) && (x.fIn == y.fIn)) && (x.fOut == y.fOut)) && (x.fTo == y.fTo)
theorem f73_eq (m : Nat) (x y : S61) : f73 m x y = some (eqW x y) := rfl
theorem call73 {n : Nat} {h : List AObj} (x y : S61) (hn : 10 ≤ n) : callD (XC n).E (run Proofs.Tryz.prog E n) 73 [.v (e61 x), .v (e61 y)] h = some (dB (eqW x y), h) :=
 call_ok (E' := (XC n).E) (h := h) (by kernel_rfl) (Args.v (e61 x) (e61 x) (by kernel_rfl) (Args.v (e61 y) (e61 y) (by kernel_rfl) Args.nil)) (ok73 0 x y (eqW x y) (f73_eq 0 x y) n (by omega))
def goC : S61 → List S61 → List S61
 | _, [] => []
 | p, y :: r => if eqW y p = true then goC y r else y :: goC y r
def compactL : List S61 → List S61
 | [] => []
 | x :: r => x :: goC x r
theorem compactL_short {l : List S61} (h : l.length < 2) : compactL l = l := by
 match l, h with
 | [], _ => rfl
 | [x], _ => rfl
theorem goC_eq {p y : S61} {r : List S61} (h : eqW y p = true) : goC p (y :: r) = goC y r := by simp [goC, h]
theorem goC_ne {p y : S61} {r : List S61} (h : eqW y p = false) : goC p (y :: r) = y :: goC y r := by simp [goC, h]
noncomputable def C72 : Code := bodyOf Proofs.Tryz.prog 72
def CQ (H : List AObj) (q : Nat) (l : List S61) : Post := fun e σ => (e = .normal ∨ e = .ret) ∧ ∃ d, resultsD T σ (resOf Proofs.Tryz.prog 72) = some d ∧ d = .osl q 0 (compactL l).length false ∧ σ.heap = hR H q (compactL l)
theorem CQ.of {H : List AObj} {q : Nat} {l R : List S61} {σ : St} {m : Nat} (h4 : σ.tmps.getD 4 .undef = .osl q 0 m false) (hm : R.length = m) (hh : σ.heap = hR H q R) (hR : R = compactL l) : CQ H q l .ret σ := by
 have hr : resOf Proofs.Tryz.prog 72 = [.tmp 4] := by kernel_rfl
 subst hR
 refine ⟨.inr rfl, .osl q 0 m false, ?_, by rw [hm], hh⟩
 rw [hr]
 simp only [resultsD, allM, resultD, h4]
noncomputable abbrev M72 : Code := cL (cR (cL (cR (cL (cR (cL (cL (cR (cL (cL (cR (cL (cR (cR C72))))))))))))))
abbrev S1 (q N : Nat) (k : Int) (h : List AObj) : St := Sm 66 [(0, sD q N), (1, .v (.fn 73)), (5, dI k)] h
abbrev S2 (q N k0 : Nat) (k k2 : Int) (h : List AObj) : St := Sm 66 [(0, sD q N), (1, .v (.fn 73)), (5, dI k), (6, .osl q k0 (N - k0) false), (7, dI k2)] h
theorem compact2 (n : Nat) (H : List AObj) (q : Nat) (hq : q < H.length) (l : List S61) (hl : l.length ≤ 1000000) (ht : 10 ≤ n) (k0 : Nat) (h0 : 0 < k0) (hk : k0 < l.length) {Q : Post}
  (hQ : ∀ (k : Nat) R σ, 0 < k → k < l.length → R.length = l.length → R.take k = compactL l → Abs.forget [0, 5] σ = Sm 66 [(0, sD q l.length), (5, dI (k : Int))] (hR H q R) → Q (.exit 2) σ)
  (x0 : S61) (hx0 : l[k0]? = some x0) (h1 : l.take k0 ++ goC x0 (l.drop (k0 + 1)) = compactL l) :
  Ht False Proofs.Tryz.prog M72 (S2 q l.length k0 k0 1 (hR H q l)) Q := by
 refine Ht.loop (fun m σ => ∃ (k k2 : Nat) (R : List S61) (x : S61), m = l.length - k2 ∧ 1 ≤ k2 ∧ k0 + k2 ≤ l.length ∧ k0 ≤ k ∧ k + 1 ≤ k0 + k2 ∧ R.length = l.length ∧ R.drop (k0 + k2 - 1) = l.drop (k0 + k2 - 1) ∧ l[k0 + k2 - 1]? = some x ∧ R.take k ++ goC x (l.drop (k0 + k2)) = compactL l ∧
   Abs.forget [0, 1, 5, 6, 7] σ = S2 q l.length k0 k k2 (hR H q R)) (l.length - 1) (by kernel_rfl) ⟨k0, 1, l, x0, rfl, Nat.le_refl _, by omega, Nat.le_refl _, by omega, rfl, rfl, hx0, h1, by kernel_rfl⟩ ?_
 rintro m σ ⟨k, k2, R, x, rfl, a1, a2, a3, a4, a5, a6, a7, a8, hσ⟩
 refine Ht.forget [0, 1, 5, 6, 7] (Ht.st hσ ?_)
 clear hσ
 refine Ht.sq (Ht.sq (Ht.rg (hxC n) (Ops.sg 4 4 (Ops.dn (seqH.n ?_)))))
 refine Ht.cond (decide ((k2 : Int) < ((l.length - k0 : Nat) : Int))) (by kernel_rfl) (by kernel_rfl) (fun hc => ?_) (fun hc => ?_)
 case refine_2 =>
  have hc := of_decide_eq_false hc
  refine Ht.exit (id := 2) (by kernel_rfl) ?_
  show Q (.exit 2) _
  have hd : l.drop (k0 + k2) = [] := List.drop_eq_nil_of_le (by omega)
  rw [hd] at a8
  refine hQ k R _ (by omega) (by omega) a5 (by simpa [goC] using a8) (by kernel_rfl)
 have hc := of_decide_eq_true hc
 have hlt : k0 + k2 < l.length := by omega
 obtain ⟨y, hy⟩ : ∃ y, l[k0 + k2]? = some y := ⟨_, List.getElem?_eq_getElem hlt⟩
 have hget : ∀ j, k0 + k2 - 1 ≤ j → R[j]? = l[j]? := by
  intro j hj
  have := congrArg (fun z => z[j - (k0 + k2 - 1)]?) a6
  simp only [List.getElem?_drop] at this
  rw [show k0 + k2 - 1 + (j - (k0 + k2 - 1)) = j by omega] at this
  exact this
 have hRy : R[k0 + k2]? = some y := by rw [hget _ (by omega)]; exact hy
 have hRx : R[k0 + (k2 - 1)]? = some x := by rw [show k0 + (k2 - 1) = k0 + k2 - 1 by omega, hget _ (Nat.le_refl _)]; exact a7
 have hdrop : l.drop (k0 + k2) = y :: l.drop (k0 + k2 + 1) := by
  rw [List.drop_eq_getElem_cons hlt]
  rw [List.getElem?_eq_getElem hlt] at hy
  rw [Option.some.inj hy]
 have hw : w64 ((k2 : Int) - 1) = ((k2 - 1 : Nat) : Int) := by rw [w64_id ⟨by omega, by omega⟩]; omega
 have hw2 : w64 ((k2 : Int) + 1) = ((k2 + 1 : Nat) : Int) := by rw [w64_id ⟨by omega, by omega⟩]; omega
 have hw3 : w64 ((k : Int) + 1) = ((k + 1 : Nat) : Int) := by rw [w64_id ⟨by omega, by omega⟩]; omega
 refine Ht.sk (seqH.n (Ht.sq (Ht.bk 3 (Ht.sq (Ht.rg (hxC n) (Ops.sg 3 3 ?_))))))
 refine Ops.on 4 (fun h0 e0 => (ixo (h := h0) (q := q) (off := k0) (N := l.length - k0) (j := k2) (i := (k2 : Int)) (hq_of (g := hR H q R) (e0.trans (by kernel_rfl)) (hR_get hq R)) rfl (by omega))) ?_
 refine Ops.on 5 (fun h0 e0 => (lde (h := h0) (q := q) (j := k0 + k2) (hq_of (g := hR H q R) (e0.trans (by kernel_rfl)) (hR_get hq R)) hRy)) ?_
 refine Ops.sg 3 8 ?_
 refine Ops.on 9 (fun h0 e0 => (ixo (h := h0) (q := q) (off := k0) (N := l.length - k0) (j := k2 - 1) (i := w64 ((k2 : Int) - 1)) (hq_of (g := hR H q R) (e0.trans (by kernel_rfl)) (hR_get hq R)) hw (by omega))) ?_
 refine Ops.on 10 (fun h0 e0 => (lde (h := h0) (q := q) (j := k0 + (k2 - 1)) (hq_of (g := hR H q R) (e0.trans (by kernel_rfl)) (hR_get hq R)) hRx)) ?_
 refine Ops.on 11 (fun h0 e0 => (call73 (n := n) (h := h0) y x ht)) ?_
 refine Ops.sg 1 12 (Ops.dn (seqH.n ?_))
 refine Ht.cond (!(eqW y x)) (by kernel_rfl) (by kernel_rfl) (fun hc1 => ?_) (fun hc1 => ?_)
 ·have hne : eqW y x = false := by simpa using hc1
  rw [hdrop, goC_ne hne] at a8
  obtain ⟨b, hb⟩ : ∃ b, R[k]? = some b := ⟨_, List.getElem?_eq_getElem (by omega)⟩
  refine Ht.sq (Ht.rg (hxC n) (Ops.sg 4 4 ?_))
  refine Ops.on 5 (fun h0 e0 => (ixo (h := h0) (q := q) (off := k0) (N := l.length - k0) (j := k2) (i := (k2 : Int)) (hq_of (g := hR H q R) (e0.trans (by kernel_rfl)) (hR_get hq R)) rfl (by omega))) ?_
  refine Ops.on 6 (fun h0 e0 => (lde (h := h0) (q := q) (j := k0 + k2) (hq_of (g := hR H q R) (e0.trans (by kernel_rfl)) (hR_get hq R)) hRy)) ?_
  refine Ops.on 7 (fun h0 e0 => (ixo (h := h0) (q := q) (off := 0) (N := l.length) (j := k) (i := (k : Int)) (hq_of (g := hR H q R) (e0.trans (by kernel_rfl)) (hR_get hq R)) rfl (by omega))) ?_
  refine Ops.on 8 (fun h0 e0 => (ste (h := h0) (q := q) (j := 0 + k) (R := R) (a := y) (b := b) (hq_of (g := hR H q R) (e0.trans (by kernel_rfl)) (hR_get hq R)) (by rw [Nat.zero_add]; exact hb))) ?_
  refine Ops.dn (seqH.n (Ht.rg (hxC n) (Ops.sg 3 3 (Ops.dn (blkH.n (seqH.n (Ht.rg (hxC n) (Ops.sg 3 3 (Ops.dn ?_)))))))))
  refine ⟨l.length - (k2 + 1), by omega, k + 1, k2 + 1, R.set k y, y, rfl, by omega, by omega, by omega, by omega, by rw [List.length_set]; exact a5, ?_, by rw [show k0 + (k2 + 1) - 1 = k0 + k2 by omega]; exact hy, ?_, ?_⟩
  ·rw [List.drop_set_of_lt (by omega)]
   have := congrArg (List.drop 1) a6
   rw [List.drop_drop, List.drop_drop] at this
   rw [show k0 + (k2 + 1) - 1 = k0 + k2 - 1 + 1 by omega]
   exact this
  ·have ht1 : (R.set k y).take (k + 1) = R.take k ++ [y] := by
    rw [List.take_add_one, List.take_set_of_le (Nat.le_refl _), List.getElem?_set_self (by omega)]; rfl
   rw [ht1, ← a8, show k0 + (k2 + 1) = k0 + k2 + 1 by omega]
   simp
  ·have e : ∀ (a b : Int) (h : List AObj), a = ((k + 1 : Nat) : Int) → b = ((k2 + 1 : Nat) : Int) → h = hR H q (R.set k y) → S2 q l.length k0 a b h = S2 q l.length k0 ((k + 1 : Nat) : Int) ((k2 + 1 : Nat) : Int) (hR H q (R.set k y)) := fun a b h ha hb hh => by rw [ha, hb, hh]
   refine Eq.trans ?_ (e (w64 ((k : Int) + 1)) (w64 ((k2 : Int) + 1)) ((hR H q R).set q (.row 5 ((R.set (0 + k) y).map e61))) hw3 hw2 (by rw [Nat.zero_add]; exact hR_set R _))
   kernel_rfl
 ·have heq : eqW y x = true := by simpa using hc1
  rw [hdrop, goC_eq heq] at a8
  refine Ht.sk (blkH.n (seqH.n (Ht.rg (hxC n) (Ops.sg 3 3 (Ops.dn ?_)))))
  refine ⟨l.length - (k2 + 1), by omega, k, k2 + 1, R, y, rfl, by omega, by omega, a3, by omega, a5, ?_, by rw [show k0 + (k2 + 1) - 1 = k0 + k2 by omega]; exact hy, by rw [show k0 + (k2 + 1) = k0 + k2 + 1 by omega]; exact a8, ?_⟩
  ·have := congrArg (List.drop 1) a6
   rw [List.drop_drop, List.drop_drop] at this
   rw [show k0 + (k2 + 1) - 1 = k0 + k2 - 1 + 1 by omega]
   exact this
  ·have e : ∀ (b : Int), b = ((k2 + 1 : Nat) : Int) → S2 q l.length k0 k b (hR H q R) = S2 q l.length k0 k ((k2 + 1 : Nat) : Int) (hR H q R) := fun b hb => by rw [hb]
   refine Eq.trans ?_ (e (w64 ((k2 : Int) + 1)) hw2)
   kernel_rfl
theorem compact1 (n : Nat) (H : List AObj) (q : Nat) (hq : q < H.length) (l : List S61) (hl : l.length ≤ 1000000) (h2 : 2 ≤ l.length) (ht : 10 ≤ n) :
  Ht False Proofs.Tryz.prog (cR (cL (cR (cR C72)))) (S1 q l.length 1 (hR H q l)) (seqH False Proofs.Tryz.prog (cR (cR (cR C72))) (CQ H q l)) := by
 refine Ht.bk 0 ?_
 obtain ⟨x0, hx0⟩ : ∃ x, l[0]? = some x := ⟨_, List.getElem?_eq_getElem (by omega)⟩
 refine Ht.loop (fun m σ => ∃ (k : Nat) (x : S61), m = l.length - k ∧ 1 ≤ k ∧ k ≤ l.length ∧ l[k - 1]? = some x ∧ l.take k ++ goC x (l.drop k) = compactL l ∧ Abs.forget [0, 1, 5] σ = S1 q l.length k (hR H q l)) (l.length - 1) (by kernel_rfl) ⟨1, x0, rfl, Nat.le_refl _, by omega, hx0, ?_, by kernel_rfl⟩ ?_
 ·cases l with
  | nil => simp at hx0
  | cons a r => simp at hx0; subst hx0; simp [compactL]
 rintro m σ ⟨k, x, rfl, a1, a2, a3, a4, hσ⟩
 refine Ht.forget [0, 1, 5] (Ht.st hσ ?_)
 clear hσ
 refine Ht.sq (Ht.sq (Ht.rg (hxC n) (Ops.sg 4 4 (Ops.dn (seqH.n ?_)))))
 refine Ht.cond (decide ((k : Int) < (l.length : Int))) (by kernel_rfl) (by kernel_rfl) (fun hc => ?_) (fun hc => ?_)
 case refine_2 =>
  have hc := of_decide_eq_false hc
  have hk : k = l.length := by omega
  refine Ht.exit (id := 0) (by kernel_rfl) (seqH.x ?_)
  show Ht False Proofs.Tryz.prog (cR (cR (cR C72))) _ (CQ H q l)
  have hd : l.drop k = [] := List.drop_eq_nil_of_le (by omega)
  rw [hd, hk, List.take_length] at a4
  have hc4 : l = compactL l := by simpa [goC] using a4
  refine Ht.sq (Ht.rg (hxC n) (Ops.sg 2 2 (Ops.dn (seqH.n (Ht.rt ?_)))))
  exact CQ.of (R := l) (m := l.length) (by kernel_rfl) rfl (by kernel_rfl) hc4
 have hc := of_decide_eq_true hc
 have hlt : k < l.length := by omega
 obtain ⟨y, hy⟩ : ∃ y, l[k]? = some y := ⟨_, List.getElem?_eq_getElem hlt⟩
 have hdrop : l.drop k = y :: l.drop (k + 1) := by
  rw [List.drop_eq_getElem_cons hlt]
  rw [List.getElem?_eq_getElem hlt] at hy
  rw [Option.some.inj hy]
 have htake : l.take (k + 1) = l.take k ++ [y] := by
  rw [List.take_add_one, hy]; rfl
 have hw : w64 ((k : Int) - 1) = ((k - 1 : Nat) : Int) := by rw [w64_id ⟨by omega, by omega⟩]; omega
 have hw3 : w64 ((k : Int) + 1) = ((k + 1 : Nat) : Int) := by rw [w64_id ⟨by omega, by omega⟩]; omega
 refine Ht.sk (seqH.n (Ht.sq (Ht.bk 1 (Ht.sq (Ht.rg (hxC n) (Ops.sg 3 3 ?_))))))
 refine Ops.on 4 (fun h0 e0 => (ixo (h := h0) (q := q) (off := 0) (N := l.length) (j := k) (i := (k : Int)) (hq_of (g := hR H q l) (e0.trans (by kernel_rfl)) (hR_get hq l)) rfl (by omega))) ?_
 refine Ops.on 5 (fun h0 e0 => (lde (h := h0) (q := q) (j := 0 + k) (hq_of (g := hR H q l) (e0.trans (by kernel_rfl)) (hR_get hq l)) (by rw [Nat.zero_add]; exact hy))) ?_
 refine Ops.sg 3 8 ?_
 refine Ops.on 9 (fun h0 e0 => (ixo (h := h0) (q := q) (off := 0) (N := l.length) (j := k - 1) (i := w64 ((k : Int) - 1)) (hq_of (g := hR H q l) (e0.trans (by kernel_rfl)) (hR_get hq l)) hw (by omega))) ?_
 refine Ops.on 10 (fun h0 e0 => (lde (h := h0) (q := q) (j := 0 + (k - 1)) (hq_of (g := hR H q l) (e0.trans (by kernel_rfl)) (hR_get hq l)) (by rw [Nat.zero_add]; exact a3))) ?_
 refine Ops.on 11 (fun h0 e0 => (call73 (n := n) (h := h0) y x ht)) ?_
 refine Ops.dn (seqH.n ?_)
 refine Ht.cond (eqW y x) (by kernel_rfl) (by kernel_rfl) (fun hc1 => ?_) (fun hc1 => ?_)
 case refine_2 =>
  have hne : eqW y x = false := by simpa using hc1
  rw [hdrop, goC_ne hne] at a4
  refine Ht.sk (blkH.n (seqH.n (Ht.rg (hxC n) (Ops.sg 3 3 (Ops.dn ?_)))))
  refine ⟨l.length - (k + 1), by omega, k + 1, y, rfl, by omega, by omega, by rw [Nat.add_sub_cancel]; exact hy, by rw [htake, ← a4]; simp, ?_⟩
  have e : ∀ (b : Int), b = ((k + 1 : Nat) : Int) → S1 q l.length b (hR H q l) = S1 q l.length ((k + 1 : Nat) : Int) (hR H q l) := fun b hb => by rw [hb]
  refine Eq.trans ?_ (e (w64 ((k : Int) + 1)) hw3)
  kernel_rfl
 have heq : eqW y x = true := by simpa using hc1
 rw [hdrop, goC_eq heq] at a4
 refine Ht.sq (Ht.rg (hxC n) (Ops.sg 2 2 ?_))
 refine Ops.on 3 (fun h0 e0 => (slo (h := h0) (q := q) (N := l.length) (k := k) (hq_of (g := hR H q l) (e0.trans (by kernel_rfl)) (hR_get hq l)) hlt)) ?_
 refine Ops.sg 1 4 (Ops.dn (seqH.n (Ht.sq (Ht.sq (Ht.rg (hxC n) (Ops.sg 1 1 (Ops.dn (seqH.n (Ht.bk 2 ?_)))))))))
 refine Ht.forget [0, 1, 5, 6, 7] (Ht.st (σ' := S2 q l.length k k 1 (hR H q l)) (by kernel_rfl) ?_)
 refine compact2 n H q hq l hl ht k (by omega) hlt (fun k' R σ b1 b2 b3 b4 hσ => ?_) y hy a4
 refine blkH.x (seqH.n ?_)
 refine Ht.forget [0, 5] (Ht.st hσ ?_)
 clear hσ
 refine Ht.sq (Ht.rg (hxC n) (Ops.sg 2 2 ?_))
 refine Ops.on 3 (fun h0 e0 => (slo (h := h0) (q := q) (N := l.length) (k := k') (hq_of (g := hR H q R) (e0.trans (by kernel_rfl)) (hR_get hq R)) b2)) ?_
 refine Ops.on 4 (fun h0 e0 => (clr (h := h0) (q := q) (k := k') (m := l.length - k') (R := R) (hq_of (g := hR H q R) (e0.trans (by kernel_rfl)) (hR_get hq R)) (by omega) (by omega))) ?_
 refine Ops.dn (seqH.n ?_)
 refine Ht.forget [0, 5] (Ht.st (σ' := Sm 66 [(0, sD q l.length), (5, dI (k' : Int))] ((hR H q R).set q (.row 5 ((R.take k').map e61)))) (by kernel_rfl) ?_)
 rw [hR_set]
 refine Ht.sq (Ht.rg (hxC n) (Ops.sg 2 2 ?_))
 refine Ops.on 3 (fun h0 e0 => (slh (h := h0) (q := q) (N := l.length) (k := k') (hq_of (g := hR H q (R.take k')) (e0.trans (by kernel_rfl)) (hR_get hq (R.take k'))) b1 (by omega))) ?_
 refine Ops.sg 1 4 (Ops.dn (seqH.n (Ht.rt (blkH.r ?_))))
 show CQ H q l .ret _
 exact CQ.of (R := R.take k') (m := k') (by kernel_rfl) (by rw [List.length_take]; omega) (by kernel_rfl) b4
theorem call72 (n : Nat) (H : List AObj) (q : Nat) (l : List S61) (hl : l.length ≤ 1000000) (ht : 10 ≤ n) (hH : H[q]? = some (.row 5 (l.map e61))) :
  CallT False Proofs.Tryz.prog 72 [sD q l.length, .v (.fn 73)] H fun d h' => d = sD q (compactL l).length ∧ h' = hR H q (compactL l) := by
 have hq := lt_of_getElem? hH
 have hHl : hR H q l = H := by
  show H.set q _ = H
  exact set_same hH
 refine callT_of_ht (c := C72) (T := T) Proofs.Tryz.func72 (by kernel_rfl) T_ok ?_
 refine Ht.mono (Q := CQ H q l) ?_ fun e σ ⟨h1, d, h2, h3, h4⟩ => ⟨h1, d, h2, h3, h4⟩
 show Ht False Proofs.Tryz.prog C72 _ _
 refine Ht.sq (Ht.rg (hxC n) (Ops.sg 1 1 (Ops.dn (seqH.n (Ht.sq (Ht.sq (Ht.rg (hxC n) (Ops.sg 3 3 (Ops.dn (seqH.n ?_))))))))))
 refine Ht.cond (decide ((l.length : Int) < 2)) (by kernel_rfl) (by kernel_rfl) (fun hc => ?_) (fun hc => ?_)
 ·have hc := of_decide_eq_true hc
  refine Ht.sq (Ht.rg (hxC n) (Ops.sg 2 2 (Ops.dn (seqH.n (Ht.rt (seqH.r ?_))))))
  refine CQ.of (R := l) (m := l.length) (by kernel_rfl) rfl ?_ (compactL_short (by omega)).symm
  rw [hHl]; kernel_rfl
 have hc := of_decide_eq_false hc
 refine Ht.sk (seqH.n (Ht.sq (Ht.sq (Ht.rg (hxC n) (Ops.sg 1 1 (Ops.dn (seqH.n ?_)))))))
 refine Ht.forget [0, 1, 5] (Ht.st (σ' := S1 q l.length 1 H) (by kernel_rfl) ?_)
 rw [← hHl]
 have := compact1 n H q hq l hl (by omega) ht
 rw [hHl] at this ⊢
 exact this
set_option maxHeartbeats 2000000
theorem callT_eq {DR : Prop} {P : Program} {f : FuncId} {ds ds' : List D} {h h' : List AObj} {Q : D → List AObj → Prop} (e1 : ds = ds') (e2 : h = h') (hc : CallT DR P f ds' h' Q) : CallT DR P f ds h Q := by rw [e1, e2]; exact hc
theorem dcall {DR : Prop} {P : Program} {f : FuncId} {F : List D → List AObj → Option (D × List AObj)} (h : DOk DR P f F) {ds : List D} {hp hp' : List AObj} {d : D} (he : F ds hp = some (d, hp')) : CallT DR P f ds hp fun d0 h0 => d0 = d ∧ h0 = hp' := by
 intro S β w vs hr hi
 refine (h.2 ds hp d hp' he S β w vs hr hi).mono ?_
 rintro e w' ⟨v, S', β', h1, h2, h3, h4⟩
 exact ⟨d, hp', v, S', β', ⟨rfl, rfl⟩, h1, h2, h3, h4⟩
noncomputable def XO (n : Nat) : Cx := ⟨{ E with rowM := true, dynP := true, pureF := fun f => E.pureF f && !(f == 71 || f == 19 || f == 72 || f == 47 || f == 22) }, run Proofs.Tryz.prog E n, ⟨fun _ => [], fun _ => [], fun _ => []⟩, [], n⟩
theorem hxO (n : Nat) : Hx False Proofs.Tryz.prog (XO n) := ⟨good.mixed, good.types, run_sound good n⟩
theorem is71 : Is Proofs.Tryz.prog 71 := ⟨Proofs.Tryz.f71, Proofs.Tryz.func71, by kernel_rfl, by kernel_rfl⟩
theorem is47 : Is Proofs.Tryz.prog 47 := ⟨Proofs.Tryz.f47, Proofs.Tryz.func47, by kernel_rfl, by kernel_rfl⟩
theorem is72 : Is Proofs.Tryz.prog 72 := ⟨Proofs.Tryz.f72, Proofs.Tryz.func72, by kernel_rfl, by kernel_rfl⟩
theorem appC {h : List AObj} {q : Nat} {l : List S61} (hq : h[q]? = some (.row 5 (l.map e61))) (hl : l ≠ []) (hb : l.length ≤ 1000000) : appendD T true 27 h (.v (.sl .nonfull [])) (sD q l.length) = some (sD h.length l.length, h ++ [.row 5 (l.map e61)]) := by
 have hT : T 27 = some ti27 := rfl
 have hT2 : T 62 = some ti62 := rfl
 have hkd : ti27.kind = .slice 62 := rfl
 have he : elemsOf ti62.size h (D.unt (sD q l.length)) = some (l.map e61) := by
  show (match h[q]? with
   | some (.row k' es) => if 5 = k' ∧ 0 + l.length ≤ es.length then some ((es.drop 0).take l.length) else none
   | _ => none) = _
  rw [hq]
  show (if 5 = 5 ∧ 0 + l.length ≤ (l.map e61).length then some (((l.map e61).drop 0).take l.length) else none) = _
  rw [if_pos ⟨rfl, by simp⟩, List.drop_zero, List.take_of_length_le (by simp)]
 cases l with
 | nil => exact absurd rfl hl
 | cons x r =>
  unfold appendD
  simp only [hT, hkd, hT2]
  rw [if_neg (by decide)]
  rw [he]
  have h40 : ti62.bytes = 40 := rfl
  simp only [List.map_cons]
  rw [if_pos (by
   simp only [Bool.and_eq_true, decide_eq_true_eq, h40, List.length_cons, List.length_map, List.length_nil]
   have hb : r.length + 1 ≤ 1000000 := hb
   exact ⟨⟨⟨rfl, rfl⟩, by omega⟩, by unfold maxLen; omega⟩)]
  simp
  exact rfl
theorem call71o (n : Nat) (H : List AObj) (q : Nat) (l : List S61) (hl : l ≠ []) (hb : l.length ≤ 1000000) (hH : H[q]? = some (.row 5 (l.map e61))) :
  CallT False Proofs.Tryz.prog 71 [sD q l.length] H fun d h' => d = sD H.length l.length ∧ h' = H ++ [.row 5 (l.map e61)] := by
 have hr : resOf Proofs.Tryz.prog 71 = [.tmp 2] := by kernel_rfl
 refine callT_of_ht (c := bodyOf Proofs.Tryz.prog 71) (T := T) Proofs.Tryz.func71 (by kernel_rfl) T_ok (Ht.sq (Ht.rg (hxO n) (Ops.sg 1 1 (Ops.dn (seqH.n (Ht.sq (Ht.sq (Ht.rg (hxO n) (Ops.sg 2 2 (Ops.dn (seqH.n ?_)))))))))))
 refine Ht.cond false (by kernel_rfl) (by kernel_rfl) (fun hc => nomatch hc) (fun _ => ?_)
 refine Ht.sk (seqH.n (Ht.sq (Ht.rg (hxO n) (Ops.sg 2 2 ?_))))
 refine Ops.on 3 (fun h0 e0 => appC (h := h0) (q := q) (hq_of (g := H) (e0.trans (by kernel_rfl)) hH) hl hb) ?_
 refine Ops.sg 1 4 (Ops.dn (seqH.n (Ht.rt ?_)))
 have fin : ∀ σ : St, σ.tmps.getD 2 .undef = sD H.length l.length → resultsD T σ (resOf Proofs.Tryz.prog 71) = some (sD H.length l.length) := fun σ h4 => by
  rw [hr]; simp only [resultsD, allM, resultD, h4]
 exact ⟨.inr rfl, sD H.length l.length, fin _ (by kernel_rfl), rfl, by kernel_rfl⟩
def redW (l : List S61) : List S61 := compactL (srtC cmpA l)
theorem srtC_len (l : List S61) : (srtC cmpA l).length = l.length := (srtC_perm l).length_eq
theorem call47 (n : Nat) (H : List AObj) (q : Nat) (l : List S61) (hl : l ≠ []) (hb : l.length ≤ 1000000) (hn : 10 ≤ n) (hH : H[q]? = some (.row 5 (l.map e61))) :
  CallT False Proofs.Tryz.prog 47 [sD q l.length] H fun d h' => d = sD H.length (redW l).length ∧ h' = H ++ [.row 5 ((redW l).map e61)] := by
 have hr : resOf Proofs.Tryz.prog 47 = [.tmp 2] := by kernel_rfl
 have hpos : 0 < l.length := List.length_pos_iff.2 hl
 refine callT_of_ht (c := bodyOf Proofs.Tryz.prog 47) (T := T) Proofs.Tryz.func47 (by kernel_rfl) T_ok (Ht.sq (Ht.rg (hxO n) (Ops.sg 1 1 (Ops.dn (seqH.n (Ht.sq ?_))))))
 refine Ht.regionCall' (hxO n) 1 (t := 5) (args := [.tmp 4]) (Qc := fun d h' => d = sD H.length l.length ∧ h' = H ++ [.row 5 (l.map e61)]) (by kernel_rfl) is71 ?_
 refine OpsU.seg' 1 1 (by kernel_rfl) ?_
 refine OpsU.done ⟨callT_eq (by kernel_rfl) (by kernel_rfl) (call71o n H q l hl hb hH), fun d h' hd => ?_⟩
 obtain ⟨rfl, rfl⟩ := hd
 refine Ops.sg 1 3 (Ops.dn (seqH.n ?_))
 refine Ht.forget [3] (Ht.st (σ' := Sm 10 [(3, sD H.length l.length)] (H ++ [.row 5 (l.map e61)])) (by kernel_rfl) (Ht.sq ?_))
 have hsort : sortA [sD H.length l.length, .v (.fn 20)] (H ++ [.row 5 (l.map e61)]) = some (U, H ++ [.row 5 ((srtC cmpA l).map e61)]) := by
  have hq : (H ++ [AObj.row 5 (l.map e61)])[H.length]? = some (.row 5 (l.map e61)) := by rw [List.getElem?_append_right (Nat.le_refl _), Nat.sub_self]; rfl
  simp only [sortA, sortFnF, hq]
  rw [if_pos ⟨trivial, trivial, by rw [List.length_map], hpos, by omega⟩, allM_decA, Option.map_some]
  congr 2
  rw [List.set_append_right _ _ (Nat.le_refl _), Nat.sub_self]
  rfl
 refine Ht.regionCall' (hxO n) 1 (t := 7) (args := [.tmp 6, .func 20]) (Qc := fun d h' => d = U ∧ h' = H ++ [.row 5 ((srtC cmpA l).map e61)]) (by kernel_rfl) is19 ?_
 refine OpsU.seg' 1 1 (by kernel_rfl) ?_
 refine OpsU.done ⟨callT_eq (by kernel_rfl) (by kernel_rfl) (dcall sort19 hsort), fun d h' hd => ?_⟩
 obtain ⟨rfl, rfl⟩ := hd
 refine Ops.dn (seqH.n ?_)
 refine Ht.forget [3] (Ht.st (σ' := Sm 10 [(3, sD H.length (srtC cmpA l).length)] (H ++ [.row 5 ((srtC cmpA l).map e61)])) (by rw [srtC_len]; kernel_rfl) (Ht.sq ?_))
 have hq2 : (H ++ [AObj.row 5 ((srtC cmpA l).map e61)])[H.length]? = some (.row 5 ((srtC cmpA l).map e61)) := by rw [List.getElem?_append_right (Nat.le_refl _), Nat.sub_self]; rfl
 have hset : hR (H ++ [AObj.row 5 ((srtC cmpA l).map e61)]) H.length (redW l) = H ++ [.row 5 ((redW l).map e61)] := by
  show (H ++ [AObj.row 5 ((srtC cmpA l).map e61)]).set H.length _ = _
  rw [List.set_append_right _ _ (Nat.le_refl _), Nat.sub_self]
  rfl
 refine Ht.regionCall' (hxO n) 1 (t := 9) (args := [.tmp 8, .func 73]) (Qc := fun d h' => d = sD H.length (redW l).length ∧ h' = H ++ [.row 5 ((redW l).map e61)]) (by kernel_rfl) is72 ?_
 refine OpsU.seg' 1 1 (by kernel_rfl) ?_
 refine OpsU.done ⟨callT_eq (by kernel_rfl) (by kernel_rfl) (by
  have := call72 n (H ++ [AObj.row 5 ((srtC cmpA l).map e61)]) H.length (srtC cmpA l) (by rw [srtC_len]; exact hb) hn hq2
  unfold redW at hset ⊢
  rw [hset] at this
  exact this), fun d h' hd => ?_⟩
 obtain ⟨rfl, rfl⟩ := hd
 refine Ops.sg 1 3 (Ops.dn (seqH.n (Ht.rt ?_)))
 have fin : ∀ σ : St, σ.tmps.getD 2 .undef = sD H.length (redW l).length → resultsD T σ (resOf Proofs.Tryz.prog 47) = some (sD H.length (redW l).length) := fun σ h4 => by
  rw [hr]; simp only [resultsD, allM, resultD, h4]
 exact ⟨.inr rfl, sD H.length (redW l).length, fin _ (by kernel_rfl), rfl, by kernel_rfl⟩
set_option maxHeartbeats 2000000
def MO : Nat := 60000
def outA (a : S61) : S61 := ⟨a.fFrom, a.fTo, a.fOut, a.fOut, a.fWeight⟩
theorem f23_eq (m : Nat) (a : S61) : f23 m a = some (outA a) := rfl
def isZ (f : S31) : Bool := (f.fCode == 0) && ((f.fIndex == 0) && true)
theorem rowO_c {k : Nat} {xs : List V} (h : xs ≠ []) : rowO k xs = .row k xs := by
 cases xs with
 | nil => exact absurd rfl h
 | cons x r => rfl
theorem rowD_c {q : Nat} {xs : List V} (h : xs ≠ []) : rowF .nil q xs = .osl q 0 xs.length false := by
 cases xs with
 | nil => exact absurd rfl h
 | cons x r => rfl
def pushA (H : List AObj) (q : Nat) (xs : List S61) (x : S61) : List AObj := (if xs = [] then H else H.set q .dead) ++ [.row 5 ((xs ++ [x]).map e61)]
def rD (q : Nat) (xs : List S61) : D := rowF .nil q (xs.map e61)
theorem appA {h : List AObj} {q : Nat} {xs : List S61} {x : S61} (hb : xs.length ≤ 100000) (hq : xs ≠ [] → h[q]? = some (rowO 5 (xs.map e61))) :
  appendD T true 27 h (rD q xs) (.v (.sl .nonfull [e61 x])) = some (.osl h.length 0 (xs.length + 1) false, pushA h q xs x) := by
 have ha : app 40 xs [x] = some (xs ++ [x]) := by
  unfold app
  rw [if_pos ⟨by simp; omega, by simp; unfold maxLen; omega⟩]
 have hne : (xs ++ [x]).map e61 ≠ [] := by simp
 by_cases hf : xs = []
 ·subst hf
  have := row_n (T := T) (g := .nil) h 27 62 ti62 .nonfull e61 [x] ([] ++ [x]) ha (by kernel_rfl) (by kernel_rfl) (by kernel_rfl) (by kernel_rfl) (fun _ => rfl)
  rw [rowD_c hne, rowO_c hne] at this
  exact this
 ·have := row_app (T := T) (g := .nil) h 27 62 q ti62 .nonfull e61 xs [x] (xs ++ [x]) ha (by kernel_rfl) (by kernel_rfl) (by kernel_rfl) (by kernel_rfl) (fun _ => rfl) (hq hf)
  rw [rowD_c hne, rowO_c hne] at this
  unfold pushA
  rw [if_neg hf]
  simpa [rD, show ti62.size = 5 from rfl] using this
theorem pushA_get {H : List AObj} {q : Nat} {xs : List S61} {x : S61} {i : Nat} {v : AObj} (h : H[i]? = some v) (hq : xs = [] ∨ q ≠ i) : (pushA H q xs x)[i]? = some v := by
 unfold pushA
 by_cases hf : xs = []
 ·rw [if_pos hf]
  rw [List.getElem?_append_left (lt_of_getElem? h)]; exact h
 ·rw [if_neg hf]
  have hne : q ≠ i := hq.resolve_left hf
  rw [List.getElem?_append_left (by rw [List.length_set]; exact lt_of_getElem? h), List.getElem?_set_ne hne]; exact h
theorem pushA_len (H : List AObj) (q : Nat) (xs : List S61) (x : S61) : (pushA H q xs x).length = H.length + 1 := by
 unfold pushA; split <;> simp
theorem pushA_new (H : List AObj) (q : Nat) (xs : List S61) (x : S61) : (pushA H q xs x)[H.length]? = some (.row 5 ((xs ++ [x]).map e61)) := by
 unfold pushA
 by_cases hf : xs = []
 ·rw [if_pos hf, List.getElem?_append_right (Nat.le_refl _), Nat.sub_self]; rfl
 ·rw [if_neg hf, List.getElem?_append_right (by rw [List.length_set]; exact Nat.le_refl _), List.length_set, Nat.sub_self]; rfl
noncomputable def C22 : Code := bodyOf Proofs.Tryz.prog 22
noncomputable abbrev B22 : Code := cL (cR (cR (cR C22)))
noncomputable abbrev E22 : Code := cR (cR (cR (cR C22)))
abbrev zA : List D := [dI 0, dI 0, dI 0, dI 0, dI 0]
abbrev aC (a : S61) : List D := [dI a.fFrom, dI a.fTo, dI a.fIn, dI a.fOut, dI a.fWeight]
abbrev zM3 : List D := [dI 0, .v (.sl .nil []), .v (.sl .nil [])]
abbrev zF2 : List D := [dI 0, dI 0]
abbrev mC (st : Int) (q : Nat) (xs : List S61) (fin : List S52) : List D := [dI st, rD q xs, .v (eL e52 fin)]
abbrev S22 (m : S29) (i : Int) (G : List AObj) : St := Sm 45 [(1, .v (.fn 23)), (4, .ptr 1 0), (5, .ptr 2 0), (7, .ptr 4 0), (24, .v (vP e61 m.fArcs)), (25, dI (m.fArcs.length : Int)), (26, dI i)] G
structure ChI (m : S29) (i q : Nat) (G : List AObj) : Prop where
 z1 : G[1]? = some (.cells zM3)
 z2 : G[2]? = some (.cells zF2)
 c4 : G[4]? = some (.cells (mC m.fStates q ((m.fArcs.take i).map outA) m.fFinals))
 row : 0 < i → 5 ≤ q ∧ G[q]? = some (.row 5 (((m.fArcs.take i).map outA).map e61))
 len : 5 ≤ G.length
theorem change_loop (n : Nat) (hn : 10 ≤ n) (m : S29) (hb : m.fArcs.length ≤ 5000) {Q : Post}
  (hQ : ∀ q G, ChI m m.fArcs.length q G → Ht False Proofs.Tryz.prog E22 (Sm 45 [(4, .ptr 1 0), (5, .ptr 2 0), (7, .ptr 4 0)] G) Q)
  (G : List AObj) (hG : ChI m 0 0 G) : Ht False Proofs.Tryz.prog (cR B22) (S22 m 0 G) (seqH False Proofs.Tryz.prog E22 Q) := by
 refine Ht.bk 0 ?_
 refine Ht.loop (fun k σ => ∃ (i q : Nat) (G : List AObj), k = m.fArcs.length - i ∧ i ≤ m.fArcs.length ∧ ChI m i q G ∧ Abs.forget [1, 4, 5, 7, 24, 25, 26] σ = S22 m (i : Int) G) m.fArcs.length (by kernel_rfl) ⟨0, 0, G, rfl, Nat.zero_le _, hG, by kernel_rfl⟩ ?_
 clear hG G
 rintro k σ ⟨i, q, G, rfl, hi, hG, hσ⟩
 refine Ht.forget [1, 4, 5, 7, 24, 25, 26] (Ht.st hσ ?_)
 clear hσ
 refine Ht.sq (Ht.rg (hxO n) (Ops.sg 1 1 (Ops.dn (seqH.n (Ht.sq ?_)))))
 refine Ht.cond (decide ((i : Int) < (m.fArcs.length : Int))) (by kernel_rfl) (by kernel_rfl) (fun hc => ?_) (fun hc => ?_)
 case refine_2 =>
  have hc := of_decide_eq_false hc
  have hi2 : i = m.fArcs.length := by omega
  subst hi2
  refine Ht.exit (id := 0) (by kernel_rfl) ?_
  show Ht False Proofs.Tryz.prog E22 _ Q
  exact Ht.forget [4, 5, 7] (Ht.st (σ' := Sm 45 [(4, .ptr 1 0), (5, .ptr 2 0), (7, .ptr 4 0)] G) (by kernel_rfl) (hQ q G hG))
 have hc := of_decide_eq_true hc
 have hi : i < m.fArcs.length := by omega
 have hw2 : w64 ((i : Int) + 1) = ((i + 1 : Nat) : Int) := by rw [w64_id ⟨by omega, by omega⟩]; omega
 obtain ⟨a, ha⟩ : ∃ a, m.fArcs[i]? = some a := ⟨_, List.getElem?_eq_getElem hi⟩
 have hix : idx m.fArcs (i : Int) = some a := by simp [idx, ha]
 have htk : (m.fArcs.take (i + 1)).map outA = (m.fArcs.take i).map outA ++ [outA a] := by
  rw [List.take_add_one, ha]; simp
 obtain ⟨xs, hxs⟩ : ∃ xs, (m.fArcs.take i).map outA = xs := ⟨_, rfl⟩
 have hxl : xs.length = i := by rw [← hxs]; simp; omega
 obtain ⟨g1, g2, g4, gr, gl⟩ := hG
 rw [hxs] at g4 gr htk
 refine Ht.sk (seqH.n (Ht.sq (Ht.bk 1 (Ht.sq (Ht.rg (hxO n) ?_)))))
 refine Ops.on 1 (fun h0 e0 => ix_r (T := T) h0 27 62 5 .plain e61 m.fArcs (i : Int) a hix (by kernel_rfl) (by kernel_rfl) (fun _ => rfl)) ?_
 refine Ops.sg 2 3 ?_
 have z1 : (G ++ [AObj.cells zA])[G.length]? = some (.cells zA) := by rw [List.getElem?_append_right (Nat.le_refl _), Nat.sub_self]; rfl
 refine Ops.on 4 (fun h0 e0 => stc (i := ti62) (h := h0) (r := G.length) (off := 0) (cs := zA) (cs' := aC a) (x := .v (e61 a)) (hq_of (g := G ++ [AObj.cells zA]) (e0.trans (by kernel_rfl)) z1) (by rfl) (by rfl)) ?_
 refine Ops.dn (seqH.n ?_)
 obtain ⟨G1, hG1⟩ : ∃ G1, (G ++ [AObj.cells zA]).set G.length (AObj.cells (aC a)) = G1 := ⟨_, rfl⟩
 refine Ht.forget [1, 4, 5, 7, 9, 24, 25, 26] (Ht.st (σ' := Sm 45 [(1, .v (.fn 23)), (4, .ptr 1 0), (5, .ptr 2 0), (7, .ptr 4 0), (9, .ptr G.length 0), (24, .v (vP e61 m.fArcs)), (25, dI (m.fArcs.length : Int)), (26, dI (i : Int))] ((G ++ [AObj.cells zA]).set G.length (AObj.cells (aC a)))) (by kernel_rfl) ?_)
 rw [hG1]
 have l1 : G1.length = G.length + 1 := by rw [← hG1]; simp
 have old : ∀ (j : Nat) v, G[j]? = some v → G1[j]? = some v := fun j v hj => by
  have := lt_of_getElem? hj
  rw [← hG1, List.getElem?_set_ne (by omega), List.getElem?_append_left this]; exact hj
 have b1 : G1[G.length]? = some (.cells (aC a)) := by rw [← hG1]; exact List.getElem?_set_self (by simp)
 have k4 := old 4 _ g4
 have krow : xs ≠ [] → G1[q]? = some (rowO 5 (xs.map e61)) := fun hne => by
  have h0i : 0 < i := by rw [← hxl]; exact List.length_pos_iff.2 hne
  rw [rowO_c (by simpa using hne)]
  exact old q _ (gr h0i).2
 have q5 : xs = [] ∨ 5 ≤ q := by
  by_cases hne : xs = []
  ·exact .inl hne
  ·right
   have h0i : 0 < i := by rw [← hxl]; exact List.length_pos_iff.2 hne
   exact (gr h0i).1
 refine Ht.rg (hxO n) (Ops.sg 1 1 ?_)
 refine Ops.on 2 (fun h0 e0 => ldc (i := ti27) (h := h0) (r := 4) (off := 1) (cs := mC m.fStates q xs m.fFinals) (d := rD q xs) (hq_of (g := G1) (e0.trans (by kernel_rfl)) k4) (by rfl)) ?_
 refine Ops.sg 1 3 ?_
 refine Ops.on 4 (fun h0 e0 => ldc (i := ti62) (h := h0) (r := G.length) (off := 0) (cs := aC a) (d := .v (e61 a)) (hq_of (g := G1) (e0.trans (by kernel_rfl)) b1) (by rfl)) ?_
 refine Ops.on 5 (fun h0 e0 => call_ok (E' := (XO n).E) (h := h0) (by kernel_rfl) (Args.v (e61 a) (e61 a) (by kernel_rfl) Args.nil) (ok23 0 a (outA a) (f23_eq 0 a) n (by omega))) ?_
 refine Ops.sg 1 6 ?_
 refine Ops.on 7 (fun h0 e0 => appA (h := h0) (q := q) (xs := xs) (x := outA a) (by omega) (fun hne => hq_of (g := G1) (e0.trans (by kernel_rfl)) (krow hne))) ?_
 refine Ops.sg 1 8 ?_
 have p4 : (pushA G1 q xs (outA a))[4]? = some (.cells (mC m.fStates q xs m.fFinals)) := pushA_get k4 (by
  rcases q5 with h | h
  ·exact .inl h
  ·right; omega)
 refine Ops.on 9 (fun h0 e0 => stc (i := ti27) (h := h0) (r := 4) (off := 1) (cs := mC m.fStates q xs m.fFinals) (cs' := [dI m.fStates, .osl G1.length 0 (xs.length + 1) false, .v (eL e52 m.fFinals)]) (x := .osl G1.length 0 (xs.length + 1) false) (hq_of (g := pushA G1 q xs (outA a)) (e0.trans (by kernel_rfl)) p4) (by rfl) (by rfl)) ?_
 refine Ops.dn (blkH.n (seqH.n ?_))
 obtain ⟨G2, hG2⟩ : ∃ G2, (pushA G1 q xs (outA a)).set 4 (.cells [dI m.fStates, .osl G1.length 0 (xs.length + 1) false, .v (eL e52 m.fFinals)]) = G2 := ⟨_, rfl⟩
 refine Ht.forget [1, 4, 5, 7, 24, 25, 26] (Ht.st (σ' := S22 m (i : Int) ((pushA G1 q xs (outA a)).set 4 (.cells [dI m.fStates, .osl G1.length 0 (xs.length + 1) false, .v (eL e52 m.fFinals)]))) (by kernel_rfl) ?_)
 rw [hG2]
 refine Ht.rg (hxO n) (Ops.sg 2 2 (Ops.dn ?_))
 have hrd : rD G1.length (xs ++ [outA a]) = .osl G1.length 0 (xs.length + 1) false := by
  unfold rD
  rw [rowD_c (by simp)]
  simp
 have up : ∀ (j : Nat) v, j ≠ 4 → (xs = [] ∨ q ≠ j) → G1[j]? = some v → G2[j]? = some v := fun j v hj hq hv => by
  rw [← hG2, List.getElem?_set_ne (by omega)]
  exact pushA_get hv hq
 refine ⟨m.fArcs.length - (i + 1), by omega, i + 1, G1.length, G2, rfl, hi, ⟨?_, ?_, ?_, fun _ => ⟨by omega, ?_⟩, ?_⟩, ?_⟩
 ·exact up 1 _ (by omega) (q5.imp (fun h => h) (fun h => by omega)) (old 1 _ g1)
 ·exact up 2 _ (by omega) (q5.imp (fun h => h) (fun h => by omega)) (old 2 _ g2)
 ·rw [htk, ← hG2]
  unfold mC
  rw [hrd]
  exact List.getElem?_set_self (by rw [pushA_len]; omega)
 ·rw [htk, ← hG2, List.getElem?_set_ne (by omega)]
  exact pushA_new G1 q xs (outA a)
 ·rw [← hG2, List.length_set, pushA_len]; omega
 ·have e : ∀ y : Int, y = ((i + 1 : Nat) : Int) → S22 m y G2 = S22 m ((i + 1 : Nat) : Int) G2 := fun y hy => by rw [hy]
  refine Eq.trans ?_ (e _ hw2)
  kernel_rfl
set_option maxHeartbeats 2000000
theorem call71n (n : Nat) (H : List AObj) : CallT False Proofs.Tryz.prog 71 [.v (.sl .nil [])] H fun d h' => d = .v (.sl .nil []) ∧ h' = H := by
 have hr : resOf Proofs.Tryz.prog 71 = [.tmp 2] := by kernel_rfl
 refine callT_of_ht (c := bodyOf Proofs.Tryz.prog 71) (T := T) Proofs.Tryz.func71 (by kernel_rfl) T_ok (Ht.sq (Ht.rg (hxO n) (Ops.sg 1 1 (Ops.dn (seqH.n (Ht.sq (Ht.sq (Ht.rg (hxO n) (Ops.sg 2 2 (Ops.dn (seqH.n ?_)))))))))))
 refine Ht.cond true (by kernel_rfl) (by kernel_rfl) (fun _ => ?_) (fun hc => nomatch hc)
 refine Ht.sq (Ht.rg (hxO n) (Ops.sg 1 1 (Ops.dn (seqH.n (Ht.rt (seqH.r ?_))))))
 have fin : ∀ σ : St, σ.tmps.getD 2 .undef = .v (.sl .nil []) → resultsD T σ (resOf Proofs.Tryz.prog 71) = some (.v (.sl .nil [])) := fun σ h4 => by
  rw [hr]; simp only [resultsD, allM, resultD, h4]
 exact ⟨.inr rfl, .v (.sl .nil []), fin _ (by kernel_rfl), rfl, by kernel_rfl⟩
theorem call72n (n : Nat) (H : List AObj) : CallT False Proofs.Tryz.prog 72 [.v (.sl .nil []), .v (.fn 73)] H fun d h' => d = .v (.sl .nil []) ∧ h' = H := by
 have hr : resOf Proofs.Tryz.prog 72 = [.tmp 4] := by kernel_rfl
 refine callT_of_ht (c := C72) (T := T) Proofs.Tryz.func72 (by kernel_rfl) T_ok ?_
 show Ht False Proofs.Tryz.prog C72 _ _
 refine Ht.sq (Ht.rg (hxC n) (Ops.sg 1 1 (Ops.dn (seqH.n (Ht.sq (Ht.sq (Ht.rg (hxC n) (Ops.sg 3 3 (Ops.dn (seqH.n ?_))))))))))
 refine Ht.cond true (by kernel_rfl) (by kernel_rfl) (fun _ => ?_) (fun hc => nomatch hc)
 refine Ht.sq (Ht.rg (hxC n) (Ops.sg 2 2 (Ops.dn (seqH.n (Ht.rt (seqH.r ?_))))))
 have fin : ∀ σ : St, σ.tmps.getD 4 .undef = .v (.sl .nil []) → resultsD T σ (resOf Proofs.Tryz.prog 72) = some (.v (.sl .nil [])) := fun σ h4 => by
  rw [hr]; simp only [resultsD, allM, resultD, h4]
 exact ⟨.inr rfl, .v (.sl .nil []), fin _ (by kernel_rfl), rfl, by kernel_rfl⟩
theorem call47n (n : Nat) (H : List AObj) : CallT False Proofs.Tryz.prog 47 [.v (.sl .nil [])] H fun d h' => d = .v (.sl .nil []) ∧ h' = H := by
 have hr : resOf Proofs.Tryz.prog 47 = [.tmp 2] := by kernel_rfl
 refine callT_of_ht (c := bodyOf Proofs.Tryz.prog 47) (T := T) Proofs.Tryz.func47 (by kernel_rfl) T_ok (Ht.sq (Ht.rg (hxO n) (Ops.sg 1 1 (Ops.dn (seqH.n (Ht.sq ?_))))))
 refine Ht.regionCall' (hxO n) 1 (t := 5) (args := [.tmp 4]) (Qc := fun d h' => d = .v (.sl .nil []) ∧ h' = H) (by kernel_rfl) is71 ?_
 refine OpsU.seg' 1 1 (by kernel_rfl) ?_
 refine OpsU.done ⟨callT_eq (by kernel_rfl) (by kernel_rfl) (call71n n H), fun d h' hd => ?_⟩
 obtain ⟨rfl, hd2⟩ := hd
 replace hd2 := hd2.symm
 subst hd2
 refine Ops.sg 1 3 (Ops.dn (seqH.n (Ht.sq ?_)))
 refine Ht.regionCall' (hxO n) 1 (t := 7) (args := [.tmp 6, .func 20]) (Qc := fun d h' => d = U ∧ h' = H) (by kernel_rfl) is19 ?_
 refine OpsU.seg' 1 1 (by kernel_rfl) ?_
 refine OpsU.done ⟨callT_eq (by kernel_rfl) (by kernel_rfl) (dcall sort19 (ds := [.v (.sl .nil []), .v (.fn 20)]) (hp := H) (hp' := H) (d := U) rfl), fun d h' hd => ?_⟩
 obtain ⟨rfl, hd2⟩ := hd
 replace hd2 := hd2.symm
 subst hd2
 refine Ops.dn (seqH.n (Ht.sq ?_))
 refine Ht.regionCall' (hxO n) 1 (t := 9) (args := [.tmp 8, .func 73]) (Qc := fun d h' => d = .v (.sl .nil []) ∧ h' = H) (by kernel_rfl) is72 ?_
 refine OpsU.seg' 1 1 (by kernel_rfl) ?_
 refine OpsU.done ⟨callT_eq (by kernel_rfl) (by kernel_rfl) (call72n n H), fun d h' hd => ?_⟩
 obtain ⟨rfl, hd2⟩ := hd
 replace hd2 := hd2.symm
 subst hd2
 refine Ops.sg 1 3 (Ops.dn (seqH.n (Ht.rt ?_)))
 have fin : ∀ σ : St, σ.tmps.getD 2 .undef = .v (.sl .nil []) → resultsD T σ (resOf Proofs.Tryz.prog 47) = some (.v (.sl .nil [])) := fun σ h4 => by
  rw [hr]; simp only [resultsD, allM, resultD, h4]
 exact ⟨.inr rfl, .v (.sl .nil []), fin _ (by kernel_rfl), rfl, by kernel_rfl⟩
def OQ (m : S29) (f : S31) : Post := fun e σ => (e = .normal ∨ e = .ret) ∧ ∃ d, resultsD T σ (resOf Proofs.Tryz.prog 22) = some d ∧ frz σ.heap 15 d = some (.tuple [e29 m, e31 f])
theorem OQ.of {m : S29} {f : S31} {σ : St} {cs : List D} {a : D} (h4 : σ.tmps.getD 4 .undef = .ptr 1 0) (h5 : σ.tmps.getD 5 .undef = .ptr 2 0) (hm : σ.heap[1]? = some (.cells cs)) (ha : (cut cs 0 ti30.size).bind (mkOf ti30.kind.isAgg) = some a)
  (hf : σ.heap[2]? = some (.cells [dI f.fCode, dI f.fIndex])) (hz : frz σ.heap 15 (mkTuple [a, .v (e31 f)]) = some (.tuple [e29 m, e31 f])) : OQ m f .ret σ := by
 have hr : resOf Proofs.Tryz.prog 22 = [.cell 4 30, .cell 5 32] := by kernel_rfl
 have hT : T 30 = some ti30 := rfl
 have hT2 : T 32 = some ti32 := rfl
 have hc : (cut [dI f.fCode, dI f.fIndex] 0 ti32.size).bind (mkOf ti32.kind.isAgg) = some (.v (e31 f)) := rfl
 refine ⟨.inr rfl, mkTuple [a, .v (e31 f)], ?_, hz⟩
 rw [hr]
 simp only [resultsD, allM, resultD, hT, hT2, h4, h5, loadD, hm, hf, ha, hc]
theorem change_end (n : Nat) (hn : 10 ≤ n) (m : S29) (hb : m.fArcs.length ≤ 5000) (q : Nat) (G : List AObj) (hG : ChI m m.fArcs.length q G) :
  Ht False Proofs.Tryz.prog E22 (Sm 45 [(4, .ptr 1 0), (5, .ptr 2 0), (7, .ptr 4 0)] G) (OQ ⟨m.fStates, redW (m.fArcs.map outA), m.fFinals⟩ ⟨0, 0⟩) := by
 obtain ⟨g1, g2, g4, gr, gl⟩ := hG
 rw [List.take_length] at g4 gr
 obtain ⟨xs, hxs⟩ : ∃ xs, m.fArcs.map outA = xs := ⟨_, rfl⟩
 have hxl : xs.length = m.fArcs.length := by rw [← hxs]; simp
 rw [hxs] at g4 gr ⊢
 by_cases hne : xs = []
 ·subst hne
  have hr0 : redW [] = [] := by simp [redW, srtC, compactL]
  rw [hr0]
  refine Ht.sq ?_
  refine Ht.regionCall' (hxO n) 2 (t := 41) (args := [.tmp 40]) (Qc := fun d h' => d = .v (.sl .nil []) ∧ h' = G) (by kernel_rfl) is47 ?_
  refine OpsU.seg' 1 1 (by kernel_rfl) ?_
  refine OpsU.one' 2 (fun h0 e0 => ldc (i := ti27) (h := h0) (r := 4) (off := 1) (cs := mC m.fStates q [] m.fFinals) (d := .v (.sl .nil [])) (hq_of (g := G) (e0.trans (by kernel_rfl)) g4) (by rfl)) (by kernel_rfl) (by kernel_rfl) ?_
  refine OpsU.done ⟨callT_eq (by kernel_rfl) (by kernel_rfl) (call47n n G), fun d h' hd => ?_⟩
  obtain ⟨rfl, rfl⟩ := hd
  refine Ops.sg 1 4 ?_
  refine Ops.on 5 (fun h0 e0 => stc (i := ti27) (h := h0) (r := 4) (off := 1) (cs := mC m.fStates q [] m.fFinals) (cs' := [dI m.fStates, .v (.sl .nil []), .v (eL e52 m.fFinals)]) (x := .v (.sl .nil [])) (hq_of (g := h') (e0.trans (by kernel_rfl)) g4) (by rfl) (by rfl)) ?_
  refine Ops.dn (seqH.n ?_)
  obtain ⟨G2, hG2⟩ : ∃ G2, h'.set 4 (.cells [dI m.fStates, .v (.sl .nil []), .v (eL e52 m.fFinals)]) = G2 := ⟨_, rfl⟩
  refine Ht.forget [4, 5, 7] (Ht.st (σ' := Sm 45 [(4, .ptr 1 0), (5, .ptr 2 0), (7, .ptr 4 0)] (h'.set 4 (.cells [dI m.fStates, .v (.sl .nil []), .v (eL e52 m.fFinals)]))) (by kernel_rfl) ?_)
  rw [hG2]
  have k1 : G2[1]? = some (.cells zM3) := by rw [← hG2, List.getElem?_set_ne (by omega)]; exact g1
  have k2 : G2[2]? = some (.cells zF2) := by rw [← hG2, List.getElem?_set_ne (by omega)]; exact g2
  have k4 : G2[4]? = some (.cells [dI m.fStates, .v (.sl .nil []), .v (eL e52 m.fFinals)]) := by rw [← hG2]; exact List.getElem?_set_self (by omega)
  refine Ht.sq (Ht.rg (hxO n) ?_)
  refine Ops.on 1 (fun h0 e0 => ldc (i := ti30) (h := h0) (r := 4) (off := 0) (cs := [dI m.fStates, .v (.sl .nil []), .v (eL e52 m.fFinals)]) (d := .v (.agg [vI m.fStates, .sl .nil [], eL e52 m.fFinals])) (hq_of (g := G2) (e0.trans (by kernel_rfl)) k4) (by rfl)) ?_
  refine Ops.sg 1 2 ?_
  refine Ops.on 3 (fun h0 e0 => stc (i := ti30) (h := h0) (r := 1) (off := 0) (cs := zM3) (cs' := [dI m.fStates, .v (.sl .nil []), .v (eL e52 m.fFinals)]) (x := .v (.agg [vI m.fStates, .sl .nil [], eL e52 m.fFinals])) (hq_of (g := G2) (e0.trans (by kernel_rfl)) k1) (by rfl) (by rfl)) ?_
  have l1 : (G2.set 1 (.cells [dI m.fStates, .v (.sl .nil []), .v (eL e52 m.fFinals)]))[2]? = some (.cells zF2) := by rw [List.getElem?_set_ne (by omega)]; exact k2
  refine Ops.on 4 (fun h0 e0 => stc (i := ti32) (h := h0) (r := 2) (off := 0) (cs := zF2) (cs' := zF2) (x := .v (.agg [vI 0, vI 0])) (hq_of (g := G2.set 1 (.cells [dI m.fStates, .v (.sl .nil []), .v (eL e52 m.fFinals)])) (e0.trans (by kernel_rfl)) l1) (by rfl) (by rfl)) ?_
  refine Ops.dn (seqH.n (Ht.rt ?_))
  have hh : ∀ σ : St, σ.heap = (G2.set 1 (.cells [dI m.fStates, .v (.sl .nil []), .v (eL e52 m.fFinals)])).set 2 (.cells zF2) → σ.heap[1]? = some (.cells [dI m.fStates, .v (.sl .nil []), .v (eL e52 m.fFinals)]) ∧ σ.heap[2]? = some (.cells [dI 0, dI 0]) := fun σ e => by
   rw [e]
   have := lt_of_getElem? k2
   exact ⟨by rw [List.getElem?_set_ne (by omega)]; exact List.getElem?_set_self (by omega), List.getElem?_set_self (by rw [List.length_set]; exact this)⟩
  exact OQ.of (f := ⟨0, 0⟩) (by kernel_rfl) (by kernel_rfl) (hh _ (by kernel_rfl)).1 (a := .v (.agg [vI m.fStates, .sl .nil [], eL e52 m.fFinals])) (by rfl) (hh _ (by kernel_rfl)).2 (by rfl)
 ·have hpos : 0 < m.fArcs.length := by rw [← hxl]; exact List.length_pos_iff.2 hne
  obtain ⟨q5, grow⟩ := gr hpos
  have hrd : rD q xs = sD q xs.length := by
   unfold rD
   rw [rowD_c (by simpa using hne), List.length_map]
  have g4' : G[4]? = some (.cells [dI m.fStates, sD q xs.length, .v (eL e52 m.fFinals)]) := by
   rw [← hrd]; exact g4
  obtain ⟨ys, hys⟩ : ∃ ys, redW xs = ys := ⟨_, rfl⟩
  have hcall := call47 n G q xs hne (by omega) hn grow
  rw [hys] at hcall ⊢
  refine Ht.sq ?_
  refine Ht.regionCall' (hxO n) 2 (t := 41) (args := [.tmp 40]) (Qc := fun d h' => d = sD G.length ys.length ∧ h' = G ++ [.row 5 (ys.map e61)]) (by kernel_rfl) is47 ?_
  refine OpsU.seg' 1 1 (by kernel_rfl) ?_
  refine OpsU.one' 2 (fun h0 e0 => ldc (i := ti27) (h := h0) (r := 4) (off := 1) (cs := [dI m.fStates, sD q xs.length, .v (eL e52 m.fFinals)]) (d := sD q xs.length) (hq_of (g := G) (e0.trans (by kernel_rfl)) g4') (by rfl)) (by kernel_rfl) (by kernel_rfl) ?_
  refine OpsU.done ⟨callT_eq (by kernel_rfl) (by kernel_rfl) hcall, fun d h' hd => ?_⟩
  obtain ⟨rfl, rfl⟩ := hd
  have p4 : (G ++ [AObj.row 5 (ys.map e61)])[4]? = some (.cells [dI m.fStates, sD q xs.length, .v (eL e52 m.fFinals)]) := by rw [List.getElem?_append_left (by omega)]; exact g4'
  refine Ops.sg 1 4 ?_
  refine Ops.on 5 (fun h0 e0 => stc (i := ti27) (h := h0) (r := 4) (off := 1) (cs := [dI m.fStates, sD q xs.length, .v (eL e52 m.fFinals)]) (cs' := [dI m.fStates, sD G.length ys.length, .v (eL e52 m.fFinals)]) (x := sD G.length ys.length) (hq_of (g := G ++ [AObj.row 5 (ys.map e61)]) (e0.trans (by kernel_rfl)) p4) (by rfl) (by rfl)) ?_
  refine Ops.dn (seqH.n ?_)
  obtain ⟨G2, hG2⟩ : ∃ G2, (G ++ [AObj.row 5 (ys.map e61)]).set 4 (.cells [dI m.fStates, sD G.length ys.length, .v (eL e52 m.fFinals)]) = G2 := ⟨_, rfl⟩
  refine Ht.forget [4, 5, 7] (Ht.st (σ' := Sm 45 [(4, .ptr 1 0), (5, .ptr 2 0), (7, .ptr 4 0)] ((G ++ [AObj.row 5 (ys.map e61)]).set 4 (.cells [dI m.fStates, sD G.length ys.length, .v (eL e52 m.fFinals)]))) (by kernel_rfl) ?_)
  rw [hG2]
  have k1 : G2[1]? = some (.cells zM3) := by rw [← hG2, List.getElem?_set_ne (by omega), List.getElem?_append_left (by omega)]; exact g1
  have k2 : G2[2]? = some (.cells zF2) := by rw [← hG2, List.getElem?_set_ne (by omega), List.getElem?_append_left (by omega)]; exact g2
  have k4 : G2[4]? = some (.cells [dI m.fStates, sD G.length ys.length, .v (eL e52 m.fFinals)]) := by rw [← hG2]; exact List.getElem?_set_self (by simp; omega)
  have kr : G2[G.length]? = some (.row 5 (ys.map e61)) := by rw [← hG2, List.getElem?_set_ne (by omega), List.getElem?_append_right (Nat.le_refl _), Nat.sub_self]; rfl
  refine Ht.sq (Ht.rg (hxO n) ?_)
  refine Ops.on 1 (fun h0 e0 => ldc (i := ti30) (h := h0) (r := 4) (off := 0) (cs := [dI m.fStates, sD G.length ys.length, .v (eL e52 m.fFinals)]) (d := .agg [dI m.fStates, sD G.length ys.length, .v (eL e52 m.fFinals)]) (hq_of (g := G2) (e0.trans (by kernel_rfl)) k4) (by rfl)) ?_
  refine Ops.sg 1 2 ?_
  refine Ops.on 3 (fun h0 e0 => stc (i := ti30) (h := h0) (r := 1) (off := 0) (cs := zM3) (cs' := [dI m.fStates, sD G.length ys.length, .v (eL e52 m.fFinals)]) (x := .agg [dI m.fStates, sD G.length ys.length, .v (eL e52 m.fFinals)]) (hq_of (g := G2) (e0.trans (by kernel_rfl)) k1) (by rfl) (by rfl)) ?_
  have l1 : (G2.set 1 (.cells [dI m.fStates, sD G.length ys.length, .v (eL e52 m.fFinals)]))[2]? = some (.cells zF2) := by rw [List.getElem?_set_ne (by omega)]; exact k2
  refine Ops.on 4 (fun h0 e0 => stc (i := ti32) (h := h0) (r := 2) (off := 0) (cs := zF2) (cs' := zF2) (x := .v (.agg [vI 0, vI 0])) (hq_of (g := G2.set 1 (.cells [dI m.fStates, sD G.length ys.length, .v (eL e52 m.fFinals)])) (e0.trans (by kernel_rfl)) l1) (by rfl) (by rfl)) ?_
  refine Ops.dn (seqH.n (Ht.rt ?_))
  obtain ⟨G3, hG3⟩ : ∃ G3, (G2.set 1 (.cells [dI m.fStates, sD G.length ys.length, .v (eL e52 m.fFinals)])).set 2 (.cells zF2) = G3 := ⟨_, rfl⟩
  have hh : ∀ σ : St, σ.heap = (G2.set 1 (.cells [dI m.fStates, sD G.length ys.length, .v (eL e52 m.fFinals)])).set 2 (.cells zF2) → σ.heap[1]? = some (.cells [dI m.fStates, sD G.length ys.length, .v (eL e52 m.fFinals)]) ∧ σ.heap[2]? = some (.cells [dI 0, dI 0]) ∧ σ.heap[G.length]? = some (.row 5 (ys.map e61)) := fun σ e => by
   rw [e]
   have := lt_of_getElem? k2
   exact ⟨by rw [List.getElem?_set_ne (by omega)]; exact List.getElem?_set_self (by omega), List.getElem?_set_self (by rw [List.length_set]; exact this), by rw [List.getElem?_set_ne (by omega), List.getElem?_set_ne (by omega)]; exact kr⟩
  have e1 : ∀ hp : List AObj, hp[G.length]? = some (.row 5 (ys.map e61)) → frz hp 15 (mkTuple [.agg [dI m.fStates, sD G.length ys.length, .v (eL e52 m.fFinals)], .v (e31 ⟨0, 0⟩)]) = some (.tuple [e29 ⟨m.fStates, ys, m.fFinals⟩, e31 ⟨0, 0⟩]) := fun hp hq => by
   have a1 : frz hp 13 (sD G.length ys.length) = some (.sl .plain (ys.map e61)) := by
    simp only [frz, hq]
    rw [if_pos (by rw [List.length_map]; omega), List.drop_zero, List.take_of_length_le (by rw [List.length_map]; exact Nat.le_refl _)]
   have a2 : frz hp 13 (dI m.fStates) = some (vI m.fStates) := rfl
   have a3 : frz hp 13 (.v (eL e52 m.fFinals)) = some (eL e52 m.fFinals) := rfl
   have a4 : frz hp 14 (.v (e31 ⟨0, 0⟩)) = some (e31 ⟨0, 0⟩) := rfl
   have a5 : frz hp 14 (.agg [dI m.fStates, sD G.length ys.length, .v (eL e52 m.fFinals)]) = some (e29 ⟨m.fStates, ys, m.fFinals⟩) := by
    show ((allM (frz hp 13) [dI m.fStates, sD G.length ys.length, .v (eL e52 m.fFinals)]).map V.agg) = _
    simp only [allM, a1, a2, a3, Option.map_some]
    rfl
   show ((allM (frz hp 14) [.agg [dI m.fStates, sD G.length ys.length, .v (eL e52 m.fFinals)], .v (e31 ⟨0, 0⟩)]).map V.tuple) = _
   simp only [allM, a4, a5, Option.map_some]
  exact OQ.of (f := ⟨0, 0⟩) (by kernel_rfl) (by kernel_rfl) (hh _ (by kernel_rfl)).1 (a := .agg [dI m.fStates, sD G.length ys.length, .v (eL e52 m.fFinals)]) (by rfl) (hh _ (by kernel_rfl)).2.1 (e1 _ (hh _ (by kernel_rfl)).2.2)
end Go.Abs.Rd
