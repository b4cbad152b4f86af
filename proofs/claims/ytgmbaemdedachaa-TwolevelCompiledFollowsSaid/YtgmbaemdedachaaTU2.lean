import Derived.Test.YtgmbaemdedachaaTS2
namespace Go.Abs.Tu
open Go.Sort Go.Proofs Go.Abs.Ta Go.Abs.Tb Go.Abs.Tc Go.Abs.Te Go.Abs.Tf Go.Abs.Tg Go.Abs.Th
set_option linter.unusedVariables false
set_option linter.unusedSimpArgs false
set_option linter.unnecessarySimpa false
set_option maxRecDepth 100000
def eqA (x y : S111) : Bool := (x.fCt == y.fCt) && ((x.fSn == y.fSn) && true)
variable {x y : S111}
theorem eqA_iff : eqA x y = true ↔ x = y := by
 cases x; cases y
 simp [eqA]
theorem eqA_false : eqA x y = false ↔ x ≠ y := by rw [← Bool.not_eq_true, eqA_iff]
variable {N j q : Nat} {es : List V} {h : List AObj}
theorem ixo {off : Nat} {i : Int} (hq : h[q]? = some (.row 2 es)) (hi : i = (j : Int)) (hj : j < N) : (indexAddrH TM h 80 (D.unt (.osl q off N false)) (dI i)).map (·, h) = some (.eptr q (off + j) 0, h) := by
 subst hi
 have hn : natOf (dI (j : Int)) = some j := by simp [natOf]
 have hT : TM 80 = some ti80 := rfl
 have hk : ti80.kind = .slice 112 := rfl
 simp only [D.unt, indexAddrH, hT, hk, hn, if_pos hj, show sizeT TM 112 = some 2 from rfl, hq, if_true, Option.map_some]
variable {R : List S111} {a : S111}
theorem lde (hq : h[q]? = some (.row 2 (R.map e111))) (ha : R[j]? = some a) : (loadD ti112 h (.eptr q j 0)).map (·, h) = some (.v (e111 a), h) := by
 have hx : (R.map e111)[j]? = some (e111 a) := by rw [zG, ha]; rfl
 simp only [loadD, hq, hx]
 rfl
theorem ste {b : S111} (hq : h[q]? = some (.row 2 (R.map e111))) (hb : R[j]? = some b) : (storeD ti112 h (.eptr q j 0) (.v (e111 a))).map (U, ·) = some (U, h.set q (.row 2 ((R.set j a).map e111))) := by
 have hx : (R.map e111)[j]? = some (e111 b) := by rw [zG, hb]; rfl
 have h1 : ((D.v (e111 a)).solid && (D.v (e111 a)).cells.length == ti112.size) = true := rfl
 have h2 : storeV (e111 b) (e111 a) 0 = some (e111 a) := rfl
 have h3 : ((e111 a).cells.length == 2 && (e111 a).solid) = true := rfl
 simp only [storeD, h1, if_true, hq, hx, h2, h3, Option.map_some, List.map_set]
variable {k : Nat}
theorem slo (hq : h[q]? = some (.row 2 es)) (hk : k < N) : (sliceD TM h 80 (D.unt (.osl q 0 N false)) (some (dI (k : Int))) none none).map (·, h) = some (.osl q k (N - k) false, h) := by
 have hn : natOr 0 (some (dI (k : Int))) = some k := by simp [natOr, natOf]
 have hs : shapeOk h q 2 = true := by simp [shapeOk, hq]
 have hT : TM 80 = some ti80 := rfl
 have hkd : ti80.kind = .slice 112 := rfl
 have hne : (k == N) = false := by simp; omega
 simp only [D.unt, sliceD, hT, hkd, boundsD, hn, show natOr N none = some N from rfl]
 rw [if_pos ⟨om, zL _⟩]
 simp only [show sizeT TM 112 = some 2 from rfl, hs, if_true, hne, Bool.false_eq_true, if_false, Option.isNone_none, Bool.not_false, Bool.and_self, Bool.true_or, Nat.zero_add, Option.map_some, fullTo, Bool.false_and]
theorem slh (hq : h[q]? = some (.row 2 es)) (h0 : 0 < k) (hk : k ≤ N) : (sliceD TM h 80 (D.unt (.osl q 0 N false)) none (some (dI (k : Int))) none).map (·, h) = some (.osl q 0 k false, h) := by
 have hn : natOr N (some (dI (k : Int))) = some k := by simp [natOr, natOf]
 have hs : shapeOk h q 2 = true := by simp [shapeOk, hq]
 have hT : TM 80 = some ti80 := rfl
 have hkd : ti80.kind = .slice 112 := rfl
 have hne : (0 == k) = false := by simp; omega
 simp only [D.unt, sliceD, hT, hkd, boundsD, hn, show natOr 0 none = some 0 from rfl]
 rw [if_pos ⟨om, hk⟩]
 simp only [show sizeT TM 112 = some 2 from rfl, hs, if_true, hne, Bool.false_eq_true, if_false, Option.isNone_none, Bool.not_false, Bool.and_self, Bool.true_or, Nat.add_zero, Nat.sub_zero, Option.map_some, fullTo, Bool.false_and]
variable {m : Nat}
theorem clr (hq : h[q]? = some (.row 2 (R.map e111))) (h0 : 0 < m) (hl : k + m = R.length) : (clearD TM 80 h (.osl q k m false)).map (U, ·) = some (U, h.set q (.row 2 ((R.take k).map e111))) := by
 have hT : TM 80 = some ti80 := rfl
 have hT2 : TM 112 = some ti112 := rfl
 have hkd : ti80.kind = .slice 112 := rfl
 simp only [clearD, hT, hkd, hq, hT2]
 rw [if_pos ⟨rfl, rfl, h0, by rw [List.length_map]; exact hl⟩, Option.map_some, List.map_take]
def goC : S111 → List S111 → List S111
 | _, [] => []
 | p, y :: r => if eqA y p = true then goC y r else y :: goC y r
def compactL : List S111 → List S111
 | [] => []
 | x :: r => x :: goC x r
variable {l : List S111}
theorem compactL_short (h : l.length < 2) : compactL l = l := by
 match l, h with
 | [], _ => rfl
 | [x], _ => rfl
variable {p : S111} {r : List S111}
theorem goC_eq (h : eqA y p = true) : goC p (y :: r) = goC y r := by simp [goC, h]
theorem goC_ne (h : eqA y p = false) : goC p (y :: r) = y :: goC y r := by simp [goC, h]
noncomputable def C72 : Code := bodyOf Try.prog 72
abbrev sD (q N : Nat) : D := .osl q 0 N false
abbrev hR (H : List AObj) (q : Nat) (R : List S111) : List AObj := H.set q (.row 2 (R.map e111))
variable {H : List AObj}
theorem hR_get (hq : q < H.length) (R : List S111) : (hR H q R)[q]? = some (.row 2 (R.map e111)) := zQ hq
theorem hR_set (R R' : List S111) : (hR H q R).set q (.row 2 (R'.map e111)) = hR H q R' := by simp only [hR, List.set_set]
def CQ (H : List AObj) (q : Nat) (l : List S111) : Post := fun e σ => (e = .normal ∨ e = .ret) ∧ ∃ d, resultsD TM σ (resOf Try.prog 72) = some d ∧ d = .osl q 0 (compactL l).length false ∧ σ.heap = hR H q (compactL l)
theorem CQ.of {σ : St} (h4 : σ.tmps.getD 2 .undef = .osl q 0 m false) (hm : R.length = m) (hh : σ.heap = hR H q R) (hR : R = compactL l) : CQ H q l .ret σ := by
 have hr : resOf Try.prog 72 = [.tmp 2] := by kernel_rfl
 subst hR
 refine ⟨.inr rfl, .osl q 0 m false, ?_, by rw [hm], hh⟩
 rw [hr]
 simp only [resultsD, allM, resultD, h4]
noncomputable abbrev M72 : Code := cL (cR (cL (cR (cL (cR (cL (cL (cR (cL (cL (cR (cL (cR (cR C72))))))))))))))
abbrev S1 (q N : Nat) (k : Int) (h : List AObj) : St := Sm 61 [(0, sD q N), (3, dI k)] h
abbrev S2 (q N k0 : Nat) (k k2 : Int) (h : List AObj) : St := Sm 61 [(0, sD q N), (3, dI k), (4, .osl q k0 (N - k0) false), (5, dI k2)] h
theorem compact2 (n : Nat) (H : List AObj) (q : Nat) (hq : q < H.length) (l : List S111) (hl : l.length ≤ 1000000) (k0 : Nat) (h0 : 0 < k0) (hk : k0 < l.length) {Q : Post}
  (hQ : ∀ (k : Nat) R σ, 0 < k → k < l.length → R.length = l.length → R.take k = compactL l → Abs.forget [0, 3] σ = Sm 61 [(0, sD q l.length), (3, dI (k : Int))] (hR H q R) → Q (.exit 2) σ)
  (x0 : S111) (hx0 : l[k0]? = some x0) (h1 : l.take k0 ++ goC x0 (l.drop (k0 + 1)) = compactL l) :
  HT M72 (S2 q l.length k0 k0 1 (hR H q l)) Q := by
 refine Ht.loop (fun m σ => ∃ (k k2 : Nat) (R : List S111) (x : S111), m = l.length - k2 ∧ 1 ≤ k2 ∧ k0 + k2 ≤ l.length ∧ k0 ≤ k ∧ k + 1 ≤ k0 + k2 ∧ R.length = l.length ∧ R.drop (k0 + k2 - 1) = l.drop (k0 + k2 - 1) ∧ l[k0 + k2 - 1]? = some x ∧ R.take k ++ goC x (l.drop (k0 + k2)) = compactL l ∧
   Abs.forget [0, 3, 4, 5] σ = S2 q l.length k0 k k2 (hR H q R)) (l.length - 1) kr ⟨k0, 1, l, x0, rfl, zL _, om, zL _, om, rfl, rfl, hx0, h1, kr⟩ ?_
 rintro m σ ⟨k, k2, R, x, rfl, a1, a2, a3, a4, a5, a6, a7, a8, hσ⟩
 refine Hg [0, 3, 4, 5] hσ ?_
 clear hσ
 refine Hs <| Hs <| Hr (hxR n) <| Og 4 <| On <| Hd ((k2 : Int) < ((l.length - k0 : Nat) : Int)) (fun hc => ?_) (fun hc => ?_)
 case refine_2 =>
  refine Ht.exit (id := 2) kr ?_
  show Q (.exit 2) _
  have hd : l.drop (k0 + k2) = [] := zT om
  rw [hd] at a8
  refine hQ k R _ om om a5 (by simpa [goC] using a8) kr
 have hlt : k0 + k2 < l.length := by omega
 obtain ⟨y, hy⟩ : ∃ y, l[k0 + k2]? = some y := ⟨_, zA hlt⟩
 have hget : ∀ j, k0 + k2 - 1 ≤ j → R[j]? = l[j]? := by
  intro j hj
  have := congrArg (fun z => z[j - (k0 + k2 - 1)]?) a6
  simp only [zY] at this
  rw [show k0 + k2 - 1 + (j - (k0 + k2 - 1)) = j by omega] at this
  exact this
 have hRy : R[k0 + k2]? = some y := by rw [hget _ om]; exact hy
 have hRx : R[k0 + (k2 - 1)]? = some x := by rw [show k0 + (k2 - 1) = k0 + k2 - 1 by omega, hget _ (zL _)]; exact a7
 have hdrop : l.drop (k0 + k2) = y :: l.drop (k0 + k2 + 1) := by
  rw [zI hlt]
  rw [zA hlt] at hy
  rw [zC hy]
 have hw : w64 ((k2 : Int) - 1) = ((k2 - 1 : Nat) : Int) := by rw [w64_id ⟨om, om⟩]; omega
 have hw2 : w64 ((k2 : Int) + 1) = ((k2 + 1 : Nat) : Int) := by rw [w64_id ⟨om, om⟩]; omega
 have hw3 : w64 ((k : Int) + 1) = ((k + 1 : Nat) : Int) := by rw [w64_id ⟨om, om⟩]; omega
 refine Hk <| seqH.n <| Hs <| Hb 3 <| Hs <| Hr (hxR n) <| Og 2 <| Oo (fun h0 e0 => (ixo (q := q) (off := k0) (N := l.length - k0) (j := k2) (i := (k2 : Int)) (Hw (g := hR H q R) e0 (hR_get hq R)) rfl om)) <| Oo (fun h0 e0 => (lde (q := q) (j := k0 + k2) (Hw (g := hR H q R) e0 (hR_get hq R)) hRy)) <| Og 3 <| Oo (fun h0 e0 => (ixo (q := q) (off := k0) (N := l.length - k0) (j := k2 - 1) (i := w64 ((k2 : Int) - 1)) (Hw (g := hR H q R) e0 (hR_get hq R)) hw om)) <| Oo (fun h0 e0 => (lde (q := q) (j := k0 + (k2 - 1)) (Hw (g := hR H q R) e0 (hR_get hq R)) hRx)) <| Og 1 <| On <| Ht.cond (!(eqA y x)) kr kr (fun hc1 => ?_) (fun hc1 => ?_)
 ·have hne : eqA y x = false := by simpa using hc1
  rw [hdrop, goC_ne hne] at a8
  obtain ⟨b, hb⟩ : ∃ b, R[k]? = some b := ⟨_, zA om⟩
  refine Hs <| Hr (hxR n) <| Og 4 <| Oo (fun h0 e0 => (ixo (q := q) (off := k0) (N := l.length - k0) (j := k2) (i := (k2 : Int)) (Hw (g := hR H q R) e0 (hR_get hq R)) rfl om)) <| Oo (fun h0 e0 => (lde (q := q) (j := k0 + k2) (Hw (g := hR H q R) e0 (hR_get hq R)) hRy)) <| Oo (fun h0 e0 => (ixo (q := q) (off := 0) (N := l.length) (j := k) (i := (k : Int)) (Hw (g := hR H q R) e0 (hR_get hq R)) rfl om)) <| Oo (fun h0 e0 => (ste (q := q) (j := 0 + k) (R := R) (a := y) (b := b) (Hw (g := hR H q R) e0 (hR_get hq R)) (by rw [Nat.zero_add]; exact hb))) <| On <| Hr (hxR n) <| Og 3 <| Od <| blkH.n <| seqH.n <| Hr (hxR n) <| Og 3 <| Od <| ⟨l.length - (k2 + 1), om, k + 1, k2 + 1, R.set k y, y, rfl, om, om, om, om, by rw [zP]; exact a5, ?_, by rw [show k0 + (k2 + 1) - 1 = k0 + k2 by omega]; exact hy, ?_, ?_⟩
  ·rw [List.drop_set_of_lt om]
   have := congrArg (List.drop 1) a6
   rw [List.drop_drop, List.drop_drop] at this
   rw [show k0 + (k2 + 1) - 1 = k0 + k2 - 1 + 1 by omega]
   exact this
  ·have ht1 : (R.set k y).take (k + 1) = R.take k ++ [y] := by
    rw [List.take_add_one, List.take_set_of_le (zL _), zQ om]; rfl
   rw [ht1, ← a8, show k0 + (k2 + 1) = k0 + k2 + 1 by omega]
   simp
  ·have e : ∀ (a b : Int) (h : List AObj), a = ((k + 1 : Nat) : Int) → b = ((k2 + 1 : Nat) : Int) → h = hR H q (R.set k y) → S2 q l.length k0 a b h = S2 q l.length k0 ((k + 1 : Nat) : Int) ((k2 + 1 : Nat) : Int) (hR H q (R.set k y)) := fun a b h ha hb hh => by rw [ha, hb, hh]
   refine Eq.trans ?_ (e (w64 ((k : Int) + 1)) (w64 ((k2 : Int) + 1)) ((hR H q R).set q (.row 2 ((R.set (0 + k) y).map e111))) hw3 hw2 (by rw [Nat.zero_add]; exact hR_set R _))
   kernel_rfl
 ·have heq : eqA y x = true := by simpa using hc1
  rw [hdrop, goC_eq heq] at a8
  refine Hk <| blkH.n <| seqH.n <| Hr (hxR n) <| Og 3 <| Od <| ⟨l.length - (k2 + 1), om, k, k2 + 1, R, y, rfl, om, om, a3, om, a5, ?_, by rw [show k0 + (k2 + 1) - 1 = k0 + k2 by omega]; exact hy, by rw [show k0 + (k2 + 1) = k0 + k2 + 1 by omega]; exact a8, ?_⟩
  ·have := congrArg (List.drop 1) a6
   rw [List.drop_drop, List.drop_drop] at this
   rw [show k0 + (k2 + 1) - 1 = k0 + k2 - 1 + 1 by omega]
   exact this
  ·have e : ∀ (b : Int), b = ((k2 + 1 : Nat) : Int) → S2 q l.length k0 k b (hR H q R) = S2 q l.length k0 k ((k2 + 1 : Nat) : Int) (hR H q R) := fun b hb => by rw [hb]
   refine Eq.trans ?_ (e (w64 ((k2 : Int) + 1)) hw2)
   kernel_rfl
theorem compact1 (n : Nat) (H : List AObj) (q : Nat) (hq : q < H.length) (l : List S111) (hl : l.length ≤ 1000000) (h2 : 2 ≤ l.length) :
  HT (cR (cL (cR (cR C72)))) (S1 q l.length 1 (hR H q l)) (SH (cR (cR (cR C72))) (CQ H q l)) := by
 refine Hb 0 ?_
 obtain ⟨x0, hx0⟩ : ∃ x, l[0]? = some x := ⟨_, zA om⟩
 refine Ht.loop (fun m σ => ∃ (k : Nat) (x : S111), m = l.length - k ∧ 1 ≤ k ∧ k ≤ l.length ∧ l[k - 1]? = some x ∧ l.take k ++ goC x (l.drop k) = compactL l ∧ Abs.forget [0, 3] σ = S1 q l.length k (hR H q l)) (l.length - 1) kr ⟨1, x0, rfl, zL _, om, hx0, ?_, kr⟩ ?_
 ·cases l with
  | nil => simp at hx0
  | cons a r => simp at hx0; subst hx0; simp [compactL]
 rintro m σ ⟨k, x, rfl, a1, a2, a3, a4, hσ⟩
 refine Hg [0, 3] hσ ?_
 clear hσ
 refine Hs <| Hs <| Hr (hxR n) <| Og 4 <| On <| Hd ((k : Int) < (l.length : Int)) (fun hc => ?_) (fun hc => ?_)
 case refine_2 =>
  have hk : k = l.length := by omega
  refine Ht.exit (id := 0) kr <| seqH.x ?_
  show HT (cR (cR (cR C72))) _ (CQ H q l)
  have hd : l.drop k = [] := zT om
  rw [hd, hk, List.take_length] at a4
  have hc4 : l = compactL l := by simpa [goC] using a4
  refine Hs <| Hr (hxR n) <| Og 2 <| On <| Ht.ret kr ?_
  exact CQ.of (R := l) (m := l.length) kr rfl kr hc4
 have hlt : k < l.length := by omega
 obtain ⟨y, hy⟩ : ∃ y, l[k]? = some y := ⟨_, zA hlt⟩
 have hdrop : l.drop k = y :: l.drop (k + 1) := by
  rw [zI hlt]
  rw [zA hlt] at hy
  rw [zC hy]
 have htake : l.take (k + 1) = l.take k ++ [y] := by
  rw [List.take_add_one, hy]; rfl
 have hw : w64 ((k : Int) - 1) = ((k - 1 : Nat) : Int) := by rw [w64_id ⟨om, om⟩]; omega
 have hw3 : w64 ((k : Int) + 1) = ((k + 1 : Nat) : Int) := by rw [w64_id ⟨om, om⟩]; omega
 refine Hk <| seqH.n <| Hs <| Hb 1 <| Hs <| Hr (hxR n) <| Og 2 <| Oo (fun h0 e0 => (ixo (q := q) (off := 0) (N := l.length) (j := k) (i := (k : Int)) (Hw (g := hR H q l) e0 (hR_get hq l)) rfl om)) <| Oo (fun h0 e0 => (lde (q := q) (j := 0 + k) (Hw (g := hR H q l) e0 (hR_get hq l)) (by rw [Nat.zero_add]; exact hy))) <| Og 3 <| Oo (fun h0 e0 => (ixo (q := q) (off := 0) (N := l.length) (j := k - 1) (i := w64 ((k : Int) - 1)) (Hw (g := hR H q l) e0 (hR_get hq l)) hw om)) <| Oo (fun h0 e0 => (lde (q := q) (j := 0 + (k - 1)) (Hw (g := hR H q l) e0 (hR_get hq l)) (by rw [Nat.zero_add]; exact a3))) <| Og 1 <| On <| Ht.cond (eqA y x) kr kr (fun hc1 => ?_) (fun hc1 => ?_)
 case refine_2 =>
  have hne : eqA y x = false := by simpa using hc1
  rw [hdrop, goC_ne hne] at a4
  refine Hk <| blkH.n <| seqH.n <| Hr (hxR n) <| Og 3 <| Od <| ⟨l.length - (k + 1), om, k + 1, y, rfl, om, om, by rw [Nat.add_sub_cancel]; exact hy, by rw [htake, ← a4]; simp, ?_⟩
  have e : ∀ (b : Int), b = ((k + 1 : Nat) : Int) → S1 q l.length b (hR H q l) = S1 q l.length ((k + 1 : Nat) : Int) (hR H q l) := fun b hb => by rw [hb]
  refine Eq.trans ?_ (e (w64 ((k : Int) + 1)) hw3)
  kernel_rfl
 have heq : eqA y x = true := by simpa using hc1
 rw [hdrop, goC_eq heq] at a4
 refine Hs <| Hr (hxR n) <| Og 2 <| Oo (fun h0 e0 => (slo (q := q) (N := l.length) (k := k) (Hw (g := hR H q l) e0 (hR_get hq l)) hlt)) <| Og 1 <| On <| Hs <| Hs <| Hr (hxR n) <| Og 1 <| On <| Hb 2 <| Hf [0, 3, 4, 5] (S2 q l.length k k 1 (hR H q l)) <| compact2 n H q hq l hl k om hlt (fun k' R σ b1 b2 b3 b4 hσ => ?_) y hy a4
 refine blkH.x <| seqH.n <| Hg [0, 3] hσ ?_
 clear hσ
 refine Hs <| Hr (hxR n) <| Og 2 <| Oo (fun h0 e0 => (slo (q := q) (N := l.length) (k := k') (Hw (g := hR H q R) e0 (hR_get hq R)) b2)) <| Oo (fun h0 e0 => (clr (q := q) (k := k') (m := l.length - k') (R := R) (Hw (g := hR H q R) e0 (hR_get hq R)) om om)) <| On <| Hf [0, 3] (Sm 61 [(0, sD q l.length), (3, dI (k' : Int))] ((hR H q R).set q (.row 2 ((R.take k').map e111)))) ?_
 rw [hR_set]
 refine Hs <| Hr (hxR n) <| Og 2 <| Oo (fun h0 e0 => (slh (q := q) (N := l.length) (k := k') (Hw (g := hR H q (R.take k')) e0 (hR_get hq (R.take k'))) b1 om)) <| Og 1 <| On <| Ht.ret kr <| blkH.r ?_
 show CQ H q l .ret _
 exact CQ.of (R := R.take k') (m := k') kr (by rw [zW]; omega) kr b4
theorem call72 (n : Nat) (H : List AObj) (q : Nat) (l : List S111) (hl : l.length ≤ 1000000) (hH : H[q]? = some (.row 2 (l.map e111))) :
  CallT False Try.prog 72 [sD q l.length] H fun d h' => d = sD q (compactL l).length ∧ h' = hR H q (compactL l) := by
 have hq := yE hH
 have hHl : hR H q l = H := by
  show H.set q _ = H
  exact set_same hH
 refine callT_of_ht (c := C72) (T := TM) Try.func72 kr TM_ok ?_
 refine Ht.mono (Q := CQ H q l) ?_ fun e σ ⟨h1, d, h2, h3, h4⟩ => ⟨h1, d, h2, h3, h4⟩
 show HT C72 _ _
 refine Hs <| Hr (hxR n) <| Og 1 <| On <| Hs <| Hs <| Hr (hxR n) <| Og 3 <| On <| Hd ((l.length : Int) < 2) (fun hc => ?_) (fun hc => ?_)
 ·refine Hs <| Hr (hxR n) <| Og 2 <| On <| Ht.ret kr <| seqH.r <| CQ.of (R := l) (m := l.length) kr rfl ?_ (compactL_short om).symm
  rw [hHl]; kernel_rfl
 refine Hk <| seqH.n <| Hs <| Hs <| Hr (hxR n) <| Og 1 <| On <| Hf [0, 3] (S1 q l.length 1 H) ?_
 rw [← hHl]
 have := compact1 n H q hq l hl om
 rw [hHl] at this ⊢
 exact this
end Go.Abs.Tu
namespace Go.Abs.Tv
open Go.Sort Go.Proofs Go.Abs.Ta Go.Abs.Tb Go.Abs.Tc Go.Abs.Te Go.Abs.Tf Go.Abs.Tg Go.Abs.Th
open Go.Abs.Tu (eqA eqA_iff eqA_false)
set_option linter.unusedVariables false
set_option maxRecDepth 100000
variable {N j q : Nat} {es : List V} {h : List AObj}
theorem ixo {off : Nat} {i : Int} (hq : h[q]? = some (.row 1 es)) (hi : i = (j : Int)) (hj : j < N) : (indexAddrH TM h 81 (D.unt (.osl q off N false)) (dI i)).map (·, h) = some (.eptr q (off + j) 0, h) := by
 subst hi
 have hn : natOf (dI (j : Int)) = some j := by simp [natOf]
 have hT : TM 81 = some ti81 := rfl
 have hk : ti81.kind = .slice 80 := rfl
 simp only [D.unt, indexAddrH, hT, hk, hn, if_pos hj, show sizeT TM 80 = some 1 from rfl, hq, if_true, Option.map_some]
variable {R : List (List S111)} {a : (List S111)}
theorem lde (hq : h[q]? = some (.row 1 (R.map (eL e111)))) (ha : R[j]? = some a) : (loadD ti80 h (.eptr q j 0)).map (·, h) = some (.v (eL e111 a), h) := by
 have hx : (R.map (eL e111))[j]? = some (eL e111 a) := by rw [zG, ha]; rfl
 simp only [loadD, hq, hx]
 rfl
theorem ste {b : (List S111)} (hq : h[q]? = some (.row 1 (R.map (eL e111)))) (hb : R[j]? = some b) : (storeD ti80 h (.eptr q j 0) (.v (eL e111 a))).map (U, ·) = some (U, h.set q (.row 1 ((R.set j a).map (eL e111)))) := by
 have hx : (R.map (eL e111))[j]? = some (eL e111 b) := by rw [zG, hb]; rfl
 have h1 : ((D.v (eL e111 a)).solid && (D.v (eL e111 a)).cells.length == ti80.size) = true := rfl
 have h2 : storeV (eL e111 b) (eL e111 a) 0 = some (eL e111 a) := rfl
 have h3 : ((eL e111 a).cells.length == 1 && (eL e111 a).solid) = true := rfl
 simp only [storeD, h1, if_true, hq, hx, h2, h3, Option.map_some, List.map_set]
variable {k : Nat}
theorem slo (hq : h[q]? = some (.row 1 es)) (hk : k < N) : (sliceD TM h 81 (D.unt (.osl q 0 N false)) (some (dI (k : Int))) none none).map (·, h) = some (.osl q k (N - k) false, h) := by
 have hn : natOr 0 (some (dI (k : Int))) = some k := by simp [natOr, natOf]
 have hs : shapeOk h q 1 = true := by simp [shapeOk, hq]
 have hT : TM 81 = some ti81 := rfl
 have hkd : ti81.kind = .slice 80 := rfl
 have hne : (k == N) = false := by simp; omega
 simp only [D.unt, sliceD, hT, hkd, boundsD, hn, show natOr N none = some N from rfl]
 rw [if_pos ⟨om, zL _⟩]
 simp only [show sizeT TM 80 = some 1 from rfl, hs, if_true, hne, Bool.false_eq_true, if_false, Option.isNone_none, Bool.not_false, Bool.and_self, Bool.true_or, Nat.zero_add, Option.map_some, fullTo, Bool.false_and]
theorem slh (hq : h[q]? = some (.row 1 es)) (h0 : 0 < k) (hk : k ≤ N) : (sliceD TM h 81 (D.unt (.osl q 0 N false)) none (some (dI (k : Int))) none).map (·, h) = some (.osl q 0 k false, h) := by
 have hn : natOr N (some (dI (k : Int))) = some k := by simp [natOr, natOf]
 have hs : shapeOk h q 1 = true := by simp [shapeOk, hq]
 have hT : TM 81 = some ti81 := rfl
 have hkd : ti81.kind = .slice 80 := rfl
 have hne : (0 == k) = false := by simp; omega
 simp only [D.unt, sliceD, hT, hkd, boundsD, hn, show natOr 0 none = some 0 from rfl]
 rw [if_pos ⟨om, hk⟩]
 simp only [show sizeT TM 80 = some 1 from rfl, hs, if_true, hne, Bool.false_eq_true, if_false, Option.isNone_none, Bool.not_false, Bool.and_self, Bool.true_or, Nat.add_zero, Nat.sub_zero, Option.map_some, fullTo, Bool.false_and]
variable {m : Nat}
theorem clr (hq : h[q]? = some (.row 1 (R.map (eL e111)))) (h0 : 0 < m) (hl : k + m = R.length) : (clearD TM 81 h (.osl q k m false)).map (U, ·) = some (U, h.set q (.row 1 ((R.take k).map (eL e111)))) := by
 have hT : TM 81 = some ti81 := rfl
 have hT2 : TM 80 = some ti80 := rfl
 have hkd : ti81.kind = .slice 80 := rfl
 simp only [clearD, hT, hkd, hq, hT2]
 rw [if_pos ⟨rfl, rfl, h0, by rw [List.length_map]; exact hl⟩, Option.map_some, List.map_take]
abbrev sD (q N : Nat) : D := .osl q 0 N false
abbrev hR (H : List AObj) (q : Nat) (R : List (List S111)) : List AObj := H.set q (.row 1 (R.map (eL e111)))
variable {H : List AObj}
theorem hR_get (hq : q < H.length) (R : List (List S111)) : (hR H q R)[q]? = some (.row 1 (R.map (eL e111))) := zQ hq
theorem hR_set (R R' : List (List S111)) : (hR H q R).set q (.row 1 (R'.map (eL e111))) = hR H q R' := by simp only [hR, List.set_set]
instance : DecidableEq S111 := fun x y => if h : x.fCt = y.fCt ∧ x.fSn = y.fSn then isTrue (by cases x; cases y; obtain ⟨h1, h2⟩ := h; cases h1; cases h2; rfl) else isFalse (fun e => h (by subst e; exact ⟨rfl, rfl⟩))
def eqW (x y : List S111) : Bool := decide (x = y)
theorem f78_iter (m0 : Nat) (a b : List S111) (hab : a.length = b.length) (ha : a.length ≤ 1000000) : ∀ (m i : Nat), i ≤ a.length → a.length < m + i →
  brk (iter (fun (y : Int) => f78_B1 m0 a b y) m (i : Int)) some (fun y19 => some true) = some (decide (a.drop i = b.drop i))
 | 0, i, h1, h2 => by omega
 | m + 1, i, h1, h2 => by
  by_cases hi : i < a.length
  ·have hj : i < b.length := by omega
   have hx : a[i]? = some a[i] := zA hi
   have hy : b[i]? = some b[i] := zA hj
   have ix : idx a (i : Int) = some a[i] := by rw [idx_get, hx]
   have iy : idx b (i : Int) = some b[i] := by rw [idx_get, hy]
   rw [zI hi, zI hj]
   generalize a[i] = x at hx ix
   generalize b[i] = y at hy iy
   have ih := f78_iter m0 a b hab ha m (i + 1) hi om
   have hB : f78_B1 m0 a b (i : Int) = if x = y then some (.nxt ((i + 1 : Nat) : Int)) else some (.ret false) := by
    unfold f78_B1
    rw [ix, iy, show decide ((i : Int) < (a.length : Int)) = true by simpa using hi]
    simp only [cnd_true, bnd_some']
    rw [show ((x.fCt == y.fCt) && ((x.fSn == y.fSn) && true)) = eqA x y from rfl]
    by_cases h : x = y
    ·rw [eqA_iff.2 h]; simp [h, w64_nat (show i < 1000000000 by omega)]
    ·rw [eqA_false.2 h]; simp [h]
   unfold iter
   rw [hB]
   by_cases h : x = y
   ·subst h
    simp only [if_true]
    rw [ih]
    simp
   ·simp only [if_neg h]
    rw [decide_eq_false (fun e => h (List.cons.inj e).1)]; rfl
  ·have hB : f78_B1 m0 a b (i : Int) = some (.brk (i : Int)) := by
    unfold f78_B1
    rw [show decide ((i : Int) < (a.length : Int)) = false by simpa using hi]
    simp only [cnd_false]
   rw [zT (Nat.le_of_not_lt hi), zT om]
   unfold iter
   rw [hB]
   simp
theorem f77_eq (m : Nat) (x y : List S111) (hx : x.length ≤ 1000000) (hm : x.length < m) : f77 m x y = some (eqW x y) := by
 unfold f77 f78 eqW
 by_cases h : x.length = y.length
 ·rw [show ((x.length : Int) != (y.length : Int)) = false by simp [h]]
  have := f78_iter m x y h hx m 0 om om
  simp only [List.drop_zero] at this
  rw [cnd_false]
  show bnd (brk (iter (fun (y_1 : Int) => f78_B1 m x y y_1) m ((0 : Nat) : Int)) some _) _ = _
  rw [this]; rfl
 ·rw [show ((x.length : Int) != (y.length : Int)) = true by simp; omega, cnd_true, decide_eq_false (fun e => h (congrArg _ e))]; rfl
theorem call77 {n : Nat} (x y : List S111) (hx : x.length ≤ 1000000) (hn : 1000010 ≤ n) : callD (XR n).E (run Try.prog E n) 77 [.v (eL e111 x), .v (eL e111 y)] h = some (dB (eqW x y), h) :=
 call_ok (E' := (XR n).E) (h := h) kr (Args.v (eL e111 x) (eL e111 x) kr (Args.v (eL e111 y) (eL e111 y) kr Args.nil)) (ok77 1000001 x y (eqW x y) (f77_eq _ x y hx om) n om)
def goC : (List S111) → List (List S111) → List (List S111)
 | _, [] => []
 | p, y :: r => if eqW y p = true then goC y r else y :: goC y r
def compactL : List (List S111) → List (List S111)
 | [] => []
 | x :: r => x :: goC x r
variable {l : List (List S111)}
theorem compactL_short (h : l.length < 2) : compactL l = l := by
 match l, h with
 | [], _ => rfl
 | [x], _ => rfl
variable {p y : (List S111)} {r : List (List S111)}
theorem goC_eq (h : eqW y p = true) : goC p (y :: r) = goC y r := by simp [goC, h]
theorem goC_ne (h : eqW y p = false) : goC p (y :: r) = y :: goC y r := by simp [goC, h]
noncomputable def C76 : Code := bodyOf Try.prog 76
def CQ (H : List AObj) (q : Nat) (l : List (List S111)) : Post := fun e σ => (e = .normal ∨ e = .ret) ∧ ∃ d, resultsD TM σ (resOf Try.prog 76) = some d ∧ d = .osl q 0 (compactL l).length false ∧ σ.heap = hR H q (compactL l)
theorem CQ.of {σ : St} (h4 : σ.tmps.getD 4 .undef = .osl q 0 m false) (hm : R.length = m) (hh : σ.heap = hR H q R) (hR : R = compactL l) : CQ H q l .ret σ := by
 have hr : resOf Try.prog 76 = [.tmp 4] := by kernel_rfl
 subst hR
 refine ⟨.inr rfl, .osl q 0 m false, ?_, by rw [hm], hh⟩
 rw [hr]
 simp only [resultsD, allM, resultD, h4]
noncomputable abbrev M76 : Code := cL (cR (cL (cR (cL (cR (cL (cL (cR (cL (cL (cR (cL (cR (cR C76))))))))))))))
abbrev S1 (q N : Nat) (k : Int) (h : List AObj) : St := Sm 66 [(0, sD q N), (1, .v (.fn 77)), (5, dI k)] h
abbrev S2 (q N k0 : Nat) (k k2 : Int) (h : List AObj) : St := Sm 66 [(0, sD q N), (1, .v (.fn 77)), (5, dI k), (6, .osl q k0 (N - k0) false), (7, dI k2)] h
theorem compact2 (n : Nat) (H : List AObj) (q : Nat) (hq : q < H.length) (l : List (List S111)) (hl : l.length ≤ 1000000) (hb : ∀ x ∈ l, x.length ≤ 1000000) (ht : 1000010 ≤ n) (k0 : Nat) (h0 : 0 < k0) (hk : k0 < l.length) {Q : Post}
  (hQ : ∀ (k : Nat) R σ, 0 < k → k < l.length → R.length = l.length → R.take k = compactL l → Abs.forget [0, 5] σ = Sm 66 [(0, sD q l.length), (5, dI (k : Int))] (hR H q R) → Q (.exit 2) σ)
  (x0 : (List S111)) (hx0 : l[k0]? = some x0) (h1 : l.take k0 ++ goC x0 (l.drop (k0 + 1)) = compactL l) :
  HT M76 (S2 q l.length k0 k0 1 (hR H q l)) Q := by
 refine Ht.loop (fun m σ => ∃ (k k2 : Nat) (R : List (List S111)) (x : (List S111)), m = l.length - k2 ∧ 1 ≤ k2 ∧ k0 + k2 ≤ l.length ∧ k0 ≤ k ∧ k + 1 ≤ k0 + k2 ∧ R.length = l.length ∧ R.drop (k0 + k2 - 1) = l.drop (k0 + k2 - 1) ∧ l[k0 + k2 - 1]? = some x ∧ R.take k ++ goC x (l.drop (k0 + k2)) = compactL l ∧
   Abs.forget [0, 1, 5, 6, 7] σ = S2 q l.length k0 k k2 (hR H q R)) (l.length - 1) kr ⟨k0, 1, l, x0, rfl, zL _, om, zL _, om, rfl, rfl, hx0, h1, kr⟩ ?_
 rintro m σ ⟨k, k2, R, x, rfl, a1, a2, a3, a4, a5, a6, a7, a8, hσ⟩
 refine Hg [0, 1, 5, 6, 7] hσ ?_
 clear hσ
 refine Hs <| Hs <| Hr (hxR n) <| Og 4 <| On <| Hd ((k2 : Int) < ((l.length - k0 : Nat) : Int)) (fun hc => ?_) (fun hc => ?_)
 case refine_2 =>
  refine Ht.exit (id := 2) kr ?_
  show Q (.exit 2) _
  have hd : l.drop (k0 + k2) = [] := zT om
  rw [hd] at a8
  refine hQ k R _ om om a5 (by simpa [goC] using a8) kr
 have hlt : k0 + k2 < l.length := by omega
 obtain ⟨y, hy⟩ : ∃ y, l[k0 + k2]? = some y := ⟨_, zA hlt⟩
 have hget : ∀ j, k0 + k2 - 1 ≤ j → R[j]? = l[j]? := by
  intro j hj
  have := congrArg (fun z => z[j - (k0 + k2 - 1)]?) a6
  simp only [zY] at this
  rw [show k0 + k2 - 1 + (j - (k0 + k2 - 1)) = j by omega] at this
  exact this
 have hRy : R[k0 + k2]? = some y := by rw [hget _ om]; exact hy
 have hRx : R[k0 + (k2 - 1)]? = some x := by rw [show k0 + (k2 - 1) = k0 + k2 - 1 by omega, hget _ (zL _)]; exact a7
 have hdrop : l.drop (k0 + k2) = y :: l.drop (k0 + k2 + 1) := by
  rw [zI hlt]
  rw [zA hlt] at hy
  rw [zC hy]
 have hw : w64 ((k2 : Int) - 1) = ((k2 - 1 : Nat) : Int) := by rw [w64_id ⟨om, om⟩]; omega
 have hw2 : w64 ((k2 : Int) + 1) = ((k2 + 1 : Nat) : Int) := by rw [w64_id ⟨om, om⟩]; omega
 have hw3 : w64 ((k : Int) + 1) = ((k + 1 : Nat) : Int) := by rw [w64_id ⟨om, om⟩]; omega
 refine Hk <| seqH.n <| Hs <| Hb 3 <| Hs <| Hr (hxR n) <| Og 3 <| Oo (fun h0 e0 => (ixo (q := q) (off := k0) (N := l.length - k0) (j := k2) (i := (k2 : Int)) (Hw (g := hR H q R) e0 (hR_get hq R)) rfl om)) <| Oo (fun h0 e0 => (lde (q := q) (j := k0 + k2) (Hw (g := hR H q R) e0 (hR_get hq R)) hRy)) <| Og 3 <| Oo (fun h0 e0 => (ixo (q := q) (off := k0) (N := l.length - k0) (j := k2 - 1) (i := w64 ((k2 : Int) - 1)) (Hw (g := hR H q R) e0 (hR_get hq R)) hw om)) <| Oo (fun h0 e0 => (lde (q := q) (j := k0 + (k2 - 1)) (Hw (g := hR H q R) e0 (hR_get hq R)) hRx)) <| Oo (fun h0 e0 => (call77 (n := n) (h := h0) y x (hb y (zE hy)) ht)) <| Og 1 <| On <| Ht.cond (!(eqW y x)) kr kr (fun hc1 => ?_) (fun hc1 => ?_)
 ·have hne : eqW y x = false := by simpa using hc1
  rw [hdrop, goC_ne hne] at a8
  obtain ⟨b, hb⟩ : ∃ b, R[k]? = some b := ⟨_, zA om⟩
  refine Hs <| Hr (hxR n) <| Og 4 <| Oo (fun h0 e0 => (ixo (q := q) (off := k0) (N := l.length - k0) (j := k2) (i := (k2 : Int)) (Hw (g := hR H q R) e0 (hR_get hq R)) rfl om)) <| Oo (fun h0 e0 => (lde (q := q) (j := k0 + k2) (Hw (g := hR H q R) e0 (hR_get hq R)) hRy)) <| Oo (fun h0 e0 => (ixo (q := q) (off := 0) (N := l.length) (j := k) (i := (k : Int)) (Hw (g := hR H q R) e0 (hR_get hq R)) rfl om)) <| Oo (fun h0 e0 => (ste (q := q) (j := 0 + k) (R := R) (a := y) (b := b) (Hw (g := hR H q R) e0 (hR_get hq R)) (by rw [Nat.zero_add]; exact hb))) <| On <| Hr (hxR n) <| Og 3 <| Od <| blkH.n <| seqH.n <| Hr (hxR n) <| Og 3 <| Od <| ⟨l.length - (k2 + 1), om, k + 1, k2 + 1, R.set k y, y, rfl, om, om, om, om, by rw [zP]; exact a5, ?_, by rw [show k0 + (k2 + 1) - 1 = k0 + k2 by omega]; exact hy, ?_, ?_⟩
  ·rw [List.drop_set_of_lt om]
   have := congrArg (List.drop 1) a6
   rw [List.drop_drop, List.drop_drop] at this
   rw [show k0 + (k2 + 1) - 1 = k0 + k2 - 1 + 1 by omega]
   exact this
  ·have ht1 : (R.set k y).take (k + 1) = R.take k ++ [y] := by
    rw [List.take_add_one, List.take_set_of_le (zL _), zQ om]; rfl
   rw [ht1, ← a8, show k0 + (k2 + 1) = k0 + k2 + 1 by omega]
   simp
  ·have e : ∀ (a b : Int) (h : List AObj), a = ((k + 1 : Nat) : Int) → b = ((k2 + 1 : Nat) : Int) → h = hR H q (R.set k y) → S2 q l.length k0 a b h = S2 q l.length k0 ((k + 1 : Nat) : Int) ((k2 + 1 : Nat) : Int) (hR H q (R.set k y)) := fun a b h ha hb hh => by rw [ha, hb, hh]
   refine Eq.trans ?_ (e (w64 ((k : Int) + 1)) (w64 ((k2 : Int) + 1)) ((hR H q R).set q (.row 1 ((R.set (0 + k) y).map (eL e111)))) hw3 hw2 (by rw [Nat.zero_add]; exact hR_set R _))
   kernel_rfl
 ·have heq : eqW y x = true := by simpa using hc1
  rw [hdrop, goC_eq heq] at a8
  refine Hk <| blkH.n <| seqH.n <| Hr (hxR n) <| Og 3 <| Od <| ⟨l.length - (k2 + 1), om, k, k2 + 1, R, y, rfl, om, om, a3, om, a5, ?_, by rw [show k0 + (k2 + 1) - 1 = k0 + k2 by omega]; exact hy, by rw [show k0 + (k2 + 1) = k0 + k2 + 1 by omega]; exact a8, ?_⟩
  ·have := congrArg (List.drop 1) a6
   rw [List.drop_drop, List.drop_drop] at this
   rw [show k0 + (k2 + 1) - 1 = k0 + k2 - 1 + 1 by omega]
   exact this
  ·have e : ∀ (b : Int), b = ((k2 + 1 : Nat) : Int) → S2 q l.length k0 k b (hR H q R) = S2 q l.length k0 k ((k2 + 1 : Nat) : Int) (hR H q R) := fun b hb => by rw [hb]
   refine Eq.trans ?_ (e (w64 ((k2 : Int) + 1)) hw2)
   kernel_rfl
theorem compact1 (n : Nat) (H : List AObj) (q : Nat) (hq : q < H.length) (l : List (List S111)) (hl : l.length ≤ 1000000) (hb : ∀ x ∈ l, x.length ≤ 1000000) (h2 : 2 ≤ l.length) (ht : 1000010 ≤ n) :
  HT (cR (cL (cR (cR C76)))) (S1 q l.length 1 (hR H q l)) (SH (cR (cR (cR C76))) (CQ H q l)) := by
 refine Hb 0 ?_
 obtain ⟨x0, hx0⟩ : ∃ x, l[0]? = some x := ⟨_, zA om⟩
 refine Ht.loop (fun m σ => ∃ (k : Nat) (x : (List S111)), m = l.length - k ∧ 1 ≤ k ∧ k ≤ l.length ∧ l[k - 1]? = some x ∧ l.take k ++ goC x (l.drop k) = compactL l ∧ Abs.forget [0, 1, 5] σ = S1 q l.length k (hR H q l)) (l.length - 1) kr ⟨1, x0, rfl, zL _, om, hx0, ?_, kr⟩ ?_
 ·cases l with
  | nil => simp at hx0
  | cons a r => simp at hx0; subst hx0; simp [compactL]
 rintro m σ ⟨k, x, rfl, a1, a2, a3, a4, hσ⟩
 refine Hg [0, 1, 5] hσ ?_
 clear hσ
 refine Hs <| Hs <| Hr (hxR n) <| Og 4 <| On <| Hd ((k : Int) < (l.length : Int)) (fun hc => ?_) (fun hc => ?_)
 case refine_2 =>
  have hk : k = l.length := by omega
  refine Ht.exit (id := 0) kr <| seqH.x ?_
  show HT (cR (cR (cR C76))) _ (CQ H q l)
  have hd : l.drop k = [] := zT om
  rw [hd, hk, List.take_length] at a4
  have hc4 : l = compactL l := by simpa [goC] using a4
  refine Hs <| Hr (hxR n) <| Og 2 <| On <| Ht.ret kr ?_
  exact CQ.of (R := l) (m := l.length) kr rfl kr hc4
 have hlt : k < l.length := by omega
 obtain ⟨y, hy⟩ : ∃ y, l[k]? = some y := ⟨_, zA hlt⟩
 have hdrop : l.drop k = y :: l.drop (k + 1) := by
  rw [zI hlt]
  rw [zA hlt] at hy
  rw [zC hy]
 have htake : l.take (k + 1) = l.take k ++ [y] := by
  rw [List.take_add_one, hy]; rfl
 have hw : w64 ((k : Int) - 1) = ((k - 1 : Nat) : Int) := by rw [w64_id ⟨om, om⟩]; omega
 have hw3 : w64 ((k : Int) + 1) = ((k + 1 : Nat) : Int) := by rw [w64_id ⟨om, om⟩]; omega
 refine Hk <| seqH.n <| Hs <| Hb 1 <| Hs <| Hr (hxR n) <| Og 3 <| Oo (fun h0 e0 => (ixo (q := q) (off := 0) (N := l.length) (j := k) (i := (k : Int)) (Hw (g := hR H q l) e0 (hR_get hq l)) rfl om)) <| Oo (fun h0 e0 => (lde (q := q) (j := 0 + k) (Hw (g := hR H q l) e0 (hR_get hq l)) (by rw [Nat.zero_add]; exact hy))) <| Og 3 <| Oo (fun h0 e0 => (ixo (q := q) (off := 0) (N := l.length) (j := k - 1) (i := w64 ((k : Int) - 1)) (Hw (g := hR H q l) e0 (hR_get hq l)) hw om)) <| Oo (fun h0 e0 => (lde (q := q) (j := 0 + (k - 1)) (Hw (g := hR H q l) e0 (hR_get hq l)) (by rw [Nat.zero_add]; exact a3))) <| Oo (fun h0 e0 => (call77 (n := n) (h := h0) y x (hb y (zE hy)) ht)) <| On <| Ht.cond (eqW y x) kr kr (fun hc1 => ?_) (fun hc1 => ?_)
 case refine_2 =>
  have hne : eqW y x = false := by simpa using hc1
  rw [hdrop, goC_ne hne] at a4
  refine Hk <| blkH.n <| seqH.n <| Hr (hxR n) <| Og 3 <| Od <| ⟨l.length - (k + 1), om, k + 1, y, rfl, om, om, by rw [Nat.add_sub_cancel]; exact hy, by rw [htake, ← a4]; simp, ?_⟩
  have e : ∀ (b : Int), b = ((k + 1 : Nat) : Int) → S1 q l.length b (hR H q l) = S1 q l.length ((k + 1 : Nat) : Int) (hR H q l) := fun b hb => by rw [hb]
  refine Eq.trans ?_ (e (w64 ((k : Int) + 1)) hw3)
  kernel_rfl
 have heq : eqW y x = true := by simpa using hc1
 rw [hdrop, goC_eq heq] at a4
 refine Hs <| Hr (hxR n) <| Og 2 <| Oo (fun h0 e0 => (slo (q := q) (N := l.length) (k := k) (Hw (g := hR H q l) e0 (hR_get hq l)) hlt)) <| Og 1 <| On <| Hs <| Hs <| Hr (hxR n) <| Og 1 <| On <| Hb 2 <| Hf [0, 1, 5, 6, 7] (S2 q l.length k k 1 (hR H q l)) <| compact2 n H q hq l hl hb ht k om hlt (fun k' R σ b1 b2 b3 b4 hσ => ?_) y hy a4
 refine blkH.x <| seqH.n <| Hg [0, 5] hσ ?_
 clear hσ
 refine Hs <| Hr (hxR n) <| Og 2 <| Oo (fun h0 e0 => (slo (q := q) (N := l.length) (k := k') (Hw (g := hR H q R) e0 (hR_get hq R)) b2)) <| Oo (fun h0 e0 => (clr (q := q) (k := k') (m := l.length - k') (R := R) (Hw (g := hR H q R) e0 (hR_get hq R)) om om)) <| On <| Hf [0, 5] (Sm 66 [(0, sD q l.length), (5, dI (k' : Int))] ((hR H q R).set q (.row 1 ((R.take k').map (eL e111))))) ?_
 rw [hR_set]
 refine Hs <| Hr (hxR n) <| Og 2 <| Oo (fun h0 e0 => (slh (q := q) (N := l.length) (k := k') (Hw (g := hR H q (R.take k')) e0 (hR_get hq (R.take k'))) b1 om)) <| Og 1 <| On <| Ht.ret kr <| blkH.r ?_
 show CQ H q l .ret _
 exact CQ.of (R := R.take k') (m := k') kr (by rw [zW]; omega) kr b4
theorem call76 (n : Nat) (H : List AObj) (q : Nat) (l : List (List S111)) (hl : l.length ≤ 1000000) (hb : ∀ x ∈ l, x.length ≤ 1000000) (ht : 1000010 ≤ n) (hH : H[q]? = some (.row 1 (l.map (eL e111)))) :
  CallT False Try.prog 76 [sD q l.length, .v (.fn 77)] H fun d h' => d = sD q (compactL l).length ∧ h' = hR H q (compactL l) := by
 have hq := yE hH
 have hHl : hR H q l = H := by
  show H.set q _ = H
  exact set_same hH
 refine callT_of_ht (c := C76) (T := TM) Try.func76 kr TM_ok ?_
 refine Ht.mono (Q := CQ H q l) ?_ fun e σ ⟨h1, d, h2, h3, h4⟩ => ⟨h1, d, h2, h3, h4⟩
 show HT C76 _ _
 refine Hs <| Hr (hxR n) <| Og 1 <| On <| Hs <| Hs <| Hr (hxR n) <| Og 3 <| On <| Hd ((l.length : Int) < 2) (fun hc => ?_) (fun hc => ?_)
 ·refine Hs <| Hr (hxR n) <| Og 2 <| On <| Ht.ret kr <| seqH.r <| CQ.of (R := l) (m := l.length) kr rfl ?_ (compactL_short om).symm
  rw [hHl]; kernel_rfl
 refine Hk <| seqH.n <| Hs <| Hs <| Hr (hxR n) <| Og 1 <| On <| Hf [0, 1, 5] (S1 q l.length 1 H) ?_
 rw [← hHl]
 have := compact1 n H q hq l hl hb om ht
 rw [hHl] at this ⊢
 exact this
end Go.Abs.Tv
