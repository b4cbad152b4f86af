import Derived.Test.YtbeegandhppniaaYH
import Derived.Test.YtbeegandhppniaaAbsFz
namespace Go.Abs.Yi
open Go.Sort Go.Proofs Go.Abs.Ya Go.Abs.Yb Go.Abs.Yc Go.Abs.Yh
set_option linter.unusedVariables false
set_option linter.unusedSimpArgs false
set_option linter.unnecessarySimpa false
set_option maxRecDepth 100000
set_option maxHeartbeats 4000000
def bkK (w : List Int) (bk : List Int) (c : Int) : Nat → Int → Option Int
 | 0, _ => none
 | K + 1, k => if k > 0 then match idx w k with
   | none => none
   | some y => if y = c then some k else match idx bk k with
    | none => none
    | some k' => bkK w bk c K k'
  else some k
def bk1 (w : List Int) (n : Nat) (bk : List Int) : Option (List Int) := match idx bk ((n : Int) - 1) with
 | none => none
 | some k0 => match idx w ((n : Int) - 1) with
  | none => none
  | some c => match bkK w bk c 1000 k0 with
   | none => none
   | some k => match idx w k with
    | none => none
    | some y => if k < 1000000 then upd bk n (if y = c then k + 1 else k) else none
def bkN (w : List Int) : Nat → Nat → List Int → Option (List Int)
 | 0, _, _ => none
 | K + 1, n, bk => if n ≤ w.length then match bk1 w n bk with
   | none => none
   | some bk' => bkN w K (n + 1) bk'
  else some bk
abbrev cB (R : S23) (w : List Int) (d : D) : AObj := .cells [dP eI R.fFrom, dP eI R.fTo, dP eI R.fLeft, dP eI R.fRight, dP eI w, d]
abbrev rB (q : Nat) (bk : List Int) : D := rowF .nil q (bk.map eI)
abbrev oB (bk : List Int) : AObj := rowO 1 (bk.map eI)
structure BInv (r : Nat) (R : S23) (w : List Int) (q : Nat) (bk : List Int) (G : List AObj) : Prop where
 hr : G[r]? = some (cB R w (rB q bk))
 hq : G[q]? = some (oB bk)
noncomputable def C14 : Code := bodyOf Try.prog 14
noncomputable abbrev LPo : Code := cL (cR (cR (cR C14)))
noncomputable abbrev LBo : Code := cL LPo
noncomputable abbrev BKo : Code := cL (cL (cR LBo))
noncomputable abbrev LPi : Code := cL (cL (cR BKo))
abbrev S2 (r : Nat) (n : Int) (G : List AObj) : St := Sm 103 [(0, .ptr r 0), (2, dI n)] G
abbrev S3 (r : Nat) (n k : Int) (G : List AObj) : St := Sm 103 [(0, .ptr r 0), (2, dI n), (3, dI k)] G
def IK (r : Nat) (n : Nat) (w bk : List Int) (c goal : Int) (G : List AObj) : Nat → St → Prop := fun K σ => ∃ k, bkK w bk c K k = some goal ∧ Abs.forget [0, 2, 3] σ = S3 r n k G
theorem bsub {x b : Bool} (h : x = b) (h0 : List AObj) : (some (D.v (.bool x), h0) : Option (D × List AObj)) = some (D.v (.bool b), h0) := by rw [h]
theorem inner14 (N : Nat) {r n : Nat} {R : S23} {w : List Int} {q : Nat} {bk : List Int} {G : List AObj} (hI : BInv r R w q bk G) (hn : 1 ≤ n ∧ n < 1000000) {c : Int} (hc : idx w ((n : Int) - 1) = some c) {K0 : Nat} {k goal : Int} (hg : bkK w bk c K0 k = some goal) {Q : Post}
  (hQ : ∀ σ, Abs.forget [0, 2, 3] σ = S3 r n goal G → Q (.exit 2) σ) :
  Ht False Try.prog LPi (S3 r n k G) Q := by
 have hxn := hxM N
 have hw1 : w64 ((n : Int) - 1) = (n : Int) - 1 := w64_id ⟨by omega, by omega⟩
 have hc1 : idx w (w64 ((n : Int) - 1)) = some c := by rw [hw1]; exact hc
 refine Ht.loop (IK r n w bk c goal G) K0 (by kernel_rfl) ⟨k, hg, by kernel_rfl⟩ ?_
 clear hg
 rintro K σ ⟨k, hg, hσ⟩
 obtain ⟨K, rfl⟩ : ∃ z, K = z + 1 := by
  cases K with
  | zero => cases hg
  | succ z => exact ⟨z, rfl⟩
 unfold bkK at hg
 refine Ht.forget [0, 2, 3] (Ht.st hσ ?_)
 clear hσ
 refine Ht.seq (by kernel_rfl) ?_
 refine Ht.seq (by kernel_rfl) ?_
 by_cases hk : k > 0
 ·rw [if_pos hk] at hg
  split at hg
  ·cases hg
  rename_i y hy
  refine Ht.regionF hxn (by kernel_rfl) ?_
  refine Ops.seg' 1 1 (by kernel_rfl) ?_
  refine Ops.one' 2 (fun h0 e0 => bsub (x := decide (k > 0)) (b := true) (decide_eq_true hk) h0) (by kernel_rfl) (by kernel_rfl) ?_
  refine Ops.seg' 4 6 (by kernel_rfl) ?_
  refine Ops.one' 7 (fun h0 e0 => ldc (i := ti22) (h := h0) (r := r) (off := 4) (cs := [dP eI R.fFrom, dP eI R.fTo, dP eI R.fLeft, dP eI R.fRight, dP eI w, rB q bk]) (d := dP eI w) (hq_of (g := G) (e0.trans (by kernel_rfl)) hI.hr) rfl) (by kernel_rfl) (by kernel_rfl) ?_
  refine Ops.seg' 1 8 (by kernel_rfl) ?_
  refine Ops.one' 9 (fun h0 e0 => ix_r (T := TM) h0 22 3 1 .plain eI w k y hy (by kernel_rfl) (by kernel_rfl) (fun _ => rfl)) (by kernel_rfl) (by kernel_rfl) ?_
  refine Ops.seg' 4 13 (by kernel_rfl) ?_
  refine Ops.one' 14 (fun h0 e0 => ldc (i := ti22) (h := h0) (r := r) (off := 4) (cs := [dP eI R.fFrom, dP eI R.fTo, dP eI R.fLeft, dP eI R.fRight, dP eI w, rB q bk]) (d := dP eI w) (hq_of (g := G) (e0.trans (by kernel_rfl)) hI.hr) rfl) (by kernel_rfl) (by kernel_rfl) ?_
  refine Ops.seg' 2 16 (by kernel_rfl) ?_
  refine Ops.one' 17 (fun h0 e0 => ix_r (T := TM) h0 22 3 1 .plain eI w (w64 ((n : Int) - 1)) c hc1 (by kernel_rfl) (by kernel_rfl) (fun _ => rfl)) (by kernel_rfl) (by kernel_rfl) ?_
  refine Ops.seg' 3 20 (by kernel_rfl) ?_
  refine Ops.done (by kernel_rfl) ?_
  refine seqH.n ?_
  refine Ht.cond (y != c) (by kernel_rfl) (by kernel_rfl) (fun hne => ?_) (fun he => ?_)
  ·have hne : ¬ y = c := by simpa using hne
   rw [if_neg hne] at hg
   split at hg
   ·cases hg
   rename_i k' hk'
   refine Ht.skip (by kernel_rfl) ?_
   refine seqH.n ?_
   refine Ht.block 3 (by kernel_rfl) ?_
   refine Ht.region hxn (by kernel_rfl) ?_
   refine Ops.seg' 3 3 (by kernel_rfl) ?_
   refine Ops.one' 4 (fun h0 e0 => ldc (i := ti22) (h := h0) (r := r) (off := 5) (cs := [dP eI R.fFrom, dP eI R.fTo, dP eI R.fLeft, dP eI R.fRight, dP eI w, rB q bk]) (d := rB q bk) (hq_of (g := G) (e0.trans (by kernel_rfl)) hI.hr) (by cases bk <;> rfl)) (by kernel_rfl) (by kernel_rfl) ?_
   refine Ops.seg' 1 5 (by kernel_rfl) ?_
   refine Ops.one' 6 (fun h0 e0 => ix_w (T := TM) (g := .nil) h0 22 3 1 q eI bk k k' hk' (by kernel_rfl) (by kernel_rfl) (hq_of (g := G) (e0.trans (by kernel_rfl)) hI.hq)) (by kernel_rfl) (by kernel_rfl) ?_
   refine Ops.one' 7 (fun h0 e0 => ld_w (i := ti3) h0 1 q 0 eI bk k k' (vI k') hk' (hq_of (g := G) (e0.trans (by kernel_rfl)) hI.hq) rfl) (by kernel_rfl) (by kernel_rfl) ?_
   refine Ops.seg' 1 8 (by kernel_rfl) ?_
   refine Ops.done (by kernel_rfl) ?_
   refine blkH.n ?_
   exact ⟨K, by omega, k', hg, by kernel_rfl⟩
  ·have he : y = c := by simpa using he
   rw [if_pos he] at hg
   cases hg
   refine Ht.exit (id := 2) (by kernel_rfl) ?_
   exact hQ _ (by kernel_rfl)
 ·rw [if_neg hk] at hg
  cases hg
  refine Ht.regionF hxn (by kernel_rfl) ?_
  refine Ops.seg' 1 1 (by kernel_rfl) ?_
  refine Ops.one' 2 (fun h0 e0 => bsub (x := decide (goal > 0)) (b := false) (decide_eq_false hk) h0) (by kernel_rfl) (by kernel_rfl) ?_
  refine Ops.seg' 18 20 (by kernel_rfl) ?_
  refine Ops.done (by kernel_rfl) ?_
  refine seqH.n ?_
  refine Ht.cond false (by kernel_rfl) (by kernel_rfl) (fun hc => nomatch hc) (fun _ => ?_)
  refine Ht.exit (id := 2) (by kernel_rfl) ?_
  exact hQ _ (by kernel_rfl)
theorem one14 (N : Nat) {r n : Nat} {R : S23} {w : List Int} {q : Nat} {bk bk' : List Int} {G : List AObj} (hI : BInv r R w q bk G) (hn : 1 ≤ n ∧ n < 1000000) (hg : bk1 w n bk = some bk') {Q : Post}
  (hQ : ∀ σ, BInv r R w q bk' (G.set q (oB bk')) → Abs.forget [0, 2] σ = S2 r n (G.set q (oB bk')) → Q .normal σ) :
  Ht False Try.prog BKo (S2 r n G) Q := by
 have hxn := hxM N
 have hw1 : w64 ((n : Int) - 1) = (n : Int) - 1 := w64_id ⟨by omega, by omega⟩
 unfold bk1 at hg
 split at hg
 ·cases hg
 rename_i k0 hk0
 split at hg
 ·cases hg
 rename_i c hc
 split at hg
 ·cases hg
 rename_i k hk
 split at hg
 ·cases hg
 rename_i y hy
 split at hg
 case isFalse => cases hg
 rename_i hkb
 have hc1 : idx w (w64 ((n : Int) - 1)) = some c := by rw [hw1]; exact hc
 have hk1 : idx bk (w64 ((n : Int) - 1)) = some k0 := by rw [hw1]; exact hk0
 obtain ⟨x0, hx0⟩ : ∃ x, idx bk (n : Int) = some x := by
  obtain ⟨_, h2, _⟩ := upd_some hg
  exact ⟨bk[(n : Int).toNat], by unfold idx; rw [if_pos (by omega)]; exact List.getElem?_eq_getElem h2⟩
 have hrow : rB q bk = rB q bk' := upd_row hg
 have hky : 0 ≤ k := (idx_some hy).1
 refine Ht.seq (by kernel_rfl) ?_
 refine Ht.region hxn (by kernel_rfl) ?_
 refine Ops.seg' 3 3 (by kernel_rfl) ?_
 refine Ops.one' 4 (fun h0 e0 => ldc (i := ti22) (h := h0) (r := r) (off := 5) (cs := [dP eI R.fFrom, dP eI R.fTo, dP eI R.fLeft, dP eI R.fRight, dP eI w, rB q bk]) (d := rB q bk) (hq_of (g := G) (e0.trans (by kernel_rfl)) hI.hr) (by cases bk <;> rfl)) (by kernel_rfl) (by kernel_rfl) ?_
 refine Ops.seg' 2 6 (by kernel_rfl) ?_
 refine Ops.one' 7 (fun h0 e0 => ix_w (T := TM) (g := .nil) h0 22 3 1 q eI bk (w64 ((n : Int) - 1)) k0 hk1 (by kernel_rfl) (by kernel_rfl) (hq_of (g := G) (e0.trans (by kernel_rfl)) hI.hq)) (by kernel_rfl) (by kernel_rfl) ?_
 refine Ops.one' 8 (fun h0 e0 => ld_w (i := ti3) h0 1 q 0 eI bk (w64 ((n : Int) - 1)) k0 (vI k0) hk1 (hq_of (g := G) (e0.trans (by kernel_rfl)) hI.hq) rfl) (by kernel_rfl) (by kernel_rfl) ?_
 refine Ops.seg' 1 9 (by kernel_rfl) ?_
 refine Ops.done (by kernel_rfl) ?_
 refine seqH.n ?_
 refine Ht.seq (by kernel_rfl) ?_
 refine Ht.block 2 (by kernel_rfl) ?_
 refine Ht.forget [0, 2, 3] (Ht.st (σ' := S3 r n k0 G) (by kernel_rfl) ?_)
 refine inner14 N hI hn hc hk fun σ hσ => ?_
 refine blkH.x ?_
 refine seqH.n ?_
 refine Ht.forget [0, 2, 3] (Ht.st hσ ?_)
 refine Ht.seq (by kernel_rfl) ?_
 refine Ht.seq (by kernel_rfl) ?_
 refine Ht.region hxn (by kernel_rfl) ?_
 refine Ops.seg' 3 3 (by kernel_rfl) ?_
 refine Ops.one' 4 (fun h0 e0 => ldc (i := ti22) (h := h0) (r := r) (off := 4) (cs := [dP eI R.fFrom, dP eI R.fTo, dP eI R.fLeft, dP eI R.fRight, dP eI w, rB q bk]) (d := dP eI w) (hq_of (g := G) (e0.trans (by kernel_rfl)) hI.hr) rfl) (by kernel_rfl) (by kernel_rfl) ?_
 refine Ops.seg' 1 5 (by kernel_rfl) ?_
 refine Ops.one' 6 (fun h0 e0 => ix_r (T := TM) h0 22 3 1 .plain eI w k y hy (by kernel_rfl) (by kernel_rfl) (fun _ => rfl)) (by kernel_rfl) (by kernel_rfl) ?_
 refine Ops.seg' 4 10 (by kernel_rfl) ?_
 refine Ops.one' 11 (fun h0 e0 => ldc (i := ti22) (h := h0) (r := r) (off := 4) (cs := [dP eI R.fFrom, dP eI R.fTo, dP eI R.fLeft, dP eI R.fRight, dP eI w, rB q bk]) (d := dP eI w) (hq_of (g := G) (e0.trans (by kernel_rfl)) hI.hr) rfl) (by kernel_rfl) (by kernel_rfl) ?_
 refine Ops.seg' 2 13 (by kernel_rfl) ?_
 refine Ops.one' 14 (fun h0 e0 => ix_r (T := TM) h0 22 3 1 .plain eI w (w64 ((n : Int) - 1)) c hc1 (by kernel_rfl) (by kernel_rfl) (fun _ => rfl)) (by kernel_rfl) (by kernel_rfl) ?_
 refine Ops.seg' 2 16 (by kernel_rfl) ?_
 refine Ops.done (by kernel_rfl) ?_
 refine seqH.n ?_
 have fin : ∀ k2, upd bk n k2 = some bk' → Ht False Try.prog (cR (cR (cR BKo))) (S3 r n k2 G) Q := fun k2 hu => by
  refine Ht.region hxn (by kernel_rfl) ?_
  refine Ops.seg' 3 3 (by kernel_rfl) ?_
  refine Ops.one' 4 (fun h0 e0 => ldc (i := ti22) (h := h0) (r := r) (off := 5) (cs := [dP eI R.fFrom, dP eI R.fTo, dP eI R.fLeft, dP eI R.fRight, dP eI w, rB q bk]) (d := rB q bk) (hq_of (g := G) (e0.trans (by kernel_rfl)) hI.hr) (by cases bk <;> rfl)) (by kernel_rfl) (by kernel_rfl) ?_
  refine Ops.seg' 2 6 (by kernel_rfl) ?_
  refine Ops.one' 7 (fun h0 e0 => ix_w (T := TM) (g := .nil) h0 22 3 1 q eI bk n x0 hx0 (by kernel_rfl) (by kernel_rfl) (hq_of (g := G) (e0.trans (by kernel_rfl)) hI.hq)) (by kernel_rfl) (by kernel_rfl) ?_
  refine Ops.one' 8 (fun h0 e0 => st_w (i := ti3) h0 1 q 0 eI bk bk' n x0 k2 (vI k2) hx0 hu (hq_of (g := G) (e0.trans (by kernel_rfl)) hI.hq) rfl rfl rfl) (by kernel_rfl) (by kernel_rfl) ?_
  refine Ops.done (by kernel_rfl) ?_
  have hne : q ≠ r := fun e => by
   subst e
   have h1 := hI.hr
   rw [hI.hq] at h1
   cases bk <;> cases h1
  refine hQ _ ⟨set_keep hne (by rw [← hrow]; exact hI.hr), List.getElem?_set_self (lt_of_getElem? hI.hq)⟩ (by kernel_rfl)
 refine Ht.cond (y == c) (by kernel_rfl) (by kernel_rfl) (fun he => ?_) (fun hne => ?_)
 ·have he : y = c := by simpa using he
  rw [if_pos he] at hg
  have hwk : w64 (k + 1) = k + 1 := w64_id ⟨by omega, by omega⟩
  refine Ht.region hxn (by kernel_rfl) ?_
  refine Ops.seg' 3 3 (by kernel_rfl) ?_
  refine Ops.done (by kernel_rfl) ?_
  refine seqH.n ?_
  refine Ht.forget [0, 2, 3] (Ht.st (σ' := S3 r n (k + 1) G) (by rw [← hwk]; kernel_rfl) ?_)
  exact fin _ hg
 ·have hne : ¬ y = c := by simpa using hne
  rw [if_neg hne] at hg
  refine Ht.skip (by kernel_rfl) ?_
  refine seqH.n ?_
  refine Ht.forget [0, 2, 3] (Ht.st (σ' := S3 r n k G) (by kernel_rfl) ?_)
  exact fin _ hg
def OK14 (r : Nat) (R : S23) (w : List Int) (q : Nat) (goal : List Int) (G : List AObj) : Nat → St → Prop := fun K σ => ∃ (n : Nat) (bk : List Int) (G' : List AObj), 1 ≤ n ∧ n + K < 1000000 ∧ bkN w K n bk = some goal ∧ BInv r R w q bk G' ∧ (∀ j, j ≠ q → G'[j]? = G[j]?) ∧ G'.length = G.length ∧ Abs.forget [0, 2] σ = S2 r n G'
theorem outer14 (N : Nat) {r : Nat} {R : S23} {w : List Int} {q : Nat} {bk : List Int} {G : List AObj} (hI : BInv r R w q bk G) {n0 K0 : Nat} (hn : 1 ≤ n0 ∧ n0 + K0 < 1000000) {goal : List Int} (hg : bkN w K0 n0 bk = some goal) {Q : Post}
  (hQ : ∀ G' σ, BInv r R w q goal G' → (∀ j, j ≠ q → G'[j]? = G[j]?) → G'.length = G.length → σ.heap = G' → Q (.exit 0) σ) :
  Ht False Try.prog LPo (S2 r n0 G) Q := by
 have hxn := hxM N
 refine Ht.loop (OK14 r R w q goal G) K0 (by kernel_rfl) ⟨n0, bk, G, hn.1, hn.2, hg, hI, fun _ _ => rfl, rfl, by kernel_rfl⟩ ?_
 clear hg hI hn
 rintro K σ ⟨n, bk, G1, hn1, hnK, hg, hI, hfr, hlen, hσ⟩
 obtain ⟨K, rfl⟩ : ∃ z, K = z + 1 := by
  cases K with
  | zero => cases hg
  | succ z => exact ⟨z, rfl⟩
 unfold bkN at hg
 refine Ht.forget [0, 2] (Ht.st hσ ?_)
 clear hσ
 refine Ht.seq (by kernel_rfl) ?_
 refine Ht.seq (by kernel_rfl) ?_
 refine Ht.region hxn (by kernel_rfl) ?_
 refine Ops.seg' 4 4 (by kernel_rfl) ?_
 refine Ops.one' 5 (fun h0 e0 => ldc (i := ti22) (h := h0) (r := r) (off := 4) (cs := [dP eI R.fFrom, dP eI R.fTo, dP eI R.fLeft, dP eI R.fRight, dP eI w, rB q bk]) (d := dP eI w) (hq_of (g := G1) (e0.trans (by kernel_rfl)) hI.hr) rfl) (by kernel_rfl) (by kernel_rfl) ?_
 refine Ops.one' 6 (fun h0 e0 => len_r (T := TM) h0 22 3 .plain eI w (by kernel_rfl)) (by kernel_rfl) (by kernel_rfl) ?_
 refine Ops.seg' 1 7 (by kernel_rfl) ?_
 refine Ops.done (by kernel_rfl) ?_
 refine seqH.n ?_
 refine Ht.cond (decide ((n : Int) ≤ (w.length : Int))) (by kernel_rfl) (by kernel_rfl) (fun hc => ?_) (fun hc => ?_)
 case refine_2 =>
  have hc := of_decide_eq_false hc
  rw [if_neg (by omega)] at hg
  cases hg
  refine Ht.exit (id := 0) (by kernel_rfl) ?_
  exact hQ G1 _ hI hfr hlen (by kernel_rfl)
 have hc := of_decide_eq_true hc
 rw [if_pos (by omega)] at hg
 split at hg
 ·cases hg
 rename_i bk' hbk
 refine Ht.skip (by kernel_rfl) ?_
 refine seqH.n ?_
 refine Ht.seq (by kernel_rfl) ?_
 refine Ht.block 1 (by kernel_rfl) ?_
 refine Ht.forget [0, 2] (Ht.st (σ' := S2 r n G1) (by kernel_rfl) ?_)
 refine one14 N hI ⟨hn1, by omega⟩ hbk fun σ hI' hσ => ?_
 refine blkH.n ?_
 refine seqH.n ?_
 refine Ht.forget [0, 2] (Ht.st hσ ?_)
 refine Ht.region hxn (by kernel_rfl) ?_
 refine Ops.seg' 3 3 (by kernel_rfl) ?_
 refine Ops.done (by kernel_rfl) ?_
 refine ⟨K, by omega, n + 1, bk', _, by omega, by omega, hg, hI', fun j hj => ?_, by rw [List.length_set]; exact hlen, ?_⟩
 ·rw [List.getElem?_set_ne (Ne.symm hj)]; exact hfr j hj
 ·rw [← w64_nat (by omega)]
  kernel_rfl
def begM (m : Nat) (R : S23) : Option (List Int × List Int) := match f28 m [R.fLeft, R.fFrom, R.fRight] with
 | none => none
 | some w => if w.length < 100000 then (bkN w 200000 2 (List.replicate (w.length + 1) 0)).map (w, ·) else none
theorem ms14 (h : List AObj) {x : Int} {n : Nat} (hx : x = (n : Int)) (hn : n < 1000000) : makeSliceD TM 22 h (dI x) (dI x) = some (.osl h.length 0 n false, h ++ [.row 1 (List.replicate n (vI 0))]) := by subst hx; exact ms22 h n hn
theorem call14 (N m : Nat) (hN : m + 3 ≤ N) {r : Nat} {R : S23} {G : List AObj} (hr : G[r]? = some (.cells [dP eI R.fFrom, dP eI R.fTo, dP eI R.fLeft, dP eI R.fRight, .v (.sl .nil []), .v (.sl .nil [])])) {o : List Int × List Int} (h : begM m R = some o) :
  CallT False Try.prog 14 [.ptr r 0] G fun d h' => d = U ∧ BInv r R o.1 G.length o.2 h' ∧ (∀ j, j < G.length → j ≠ r → h'[j]? = G[j]?) ∧ h'.length = G.length + 1 := by
 have hxn := hxM N
 have hrlt := lt_of_getElem? hr
 unfold begM at h
 split at h
 ·cases h
 rename_i w hw
 split at h
 case isFalse => cases h
 rename_i hwl
 obtain ⟨bk, hbk, rfl⟩ := Option.map_eq_some_iff.1 h
 have hres : resOf Try.prog 14 = [] := by kernel_rfl
 refine callT_of_ht (c := bodyOf Try.prog 14) (T := TM) Try.func14 (by kernel_rfl) TM_ok ?_
 show Ht False Try.prog C14 _ _
 refine Ht.seq (by kernel_rfl) ?_
 refine Ht.regionF hxn (by kernel_rfl) ?_
 refine Ops.seg' 5 5 (by kernel_rfl) ?_
 refine Ops.one' 6 (fun h0 e0 => ldc (i := ti22) (h := h0) (r := r) (off := 2) (cs := [dP eI R.fFrom, dP eI R.fTo, dP eI R.fLeft, dP eI R.fRight, .v (.sl .nil []), .v (.sl .nil [])]) (d := dP eI R.fLeft) (hq_of (g := G) (e0.trans (by kernel_rfl)) hr) rfl) (by kernel_rfl) (by kernel_rfl) ?_
 refine Ops.seg' 4 10 (by kernel_rfl) ?_
 refine Ops.one' 11 (fun h0 e0 => ldc (i := ti22) (h := h0) (r := r) (off := 0) (cs := [dP eI R.fFrom, dP eI R.fTo, dP eI R.fLeft, dP eI R.fRight, .v (.sl .nil []), .v (.sl .nil [])]) (d := dP eI R.fFrom) (hq_of (g := G) (e0.trans (by kernel_rfl)) hr) rfl) (by kernel_rfl) (by kernel_rfl) ?_
 refine Ops.seg' 4 15 (by kernel_rfl) ?_
 refine Ops.one' 16 (fun h0 e0 => ldc (i := ti22) (h := h0) (r := r) (off := 3) (cs := [dP eI R.fFrom, dP eI R.fTo, dP eI R.fLeft, dP eI R.fRight, .v (.sl .nil []), .v (.sl .nil [])]) (d := dP eI R.fRight) (hq_of (g := G) (e0.trans (by kernel_rfl)) hr) rfl) (by kernel_rfl) (by kernel_rfl) ?_
 refine Ops.seg' 1 17 (by kernel_rfl) ?_
 refine Ops.one' 18 (fun h0 e0 => call_ok (E' := (XM N).E) (h := h0) (by kernel_rfl) (Args.v (.sl .nonfull [eL eI R.fLeft, eL eI R.fFrom, eL eI R.fRight]) (eL (eL eI) [R.fLeft, R.fFrom, R.fRight]) (by kernel_rfl) Args.nil) (ok28 m [R.fLeft, R.fFrom, R.fRight] w hw N (by omega))) (by kernel_rfl) (by kernel_rfl) ?_
 refine Ops.seg' 2 20 (by kernel_rfl) ?_
 refine Ops.one' 21 (fun h0 e0 => stc (i := ti22) (h := h0) (r := r) (off := 4) (cs := [dP eI R.fFrom, dP eI R.fTo, dP eI R.fLeft, dP eI R.fRight, .v (.sl .nil []), .v (.sl .nil [])]) (cs' := [dP eI R.fFrom, dP eI R.fTo, dP eI R.fLeft, dP eI R.fRight, dP eI w, .v (.sl .nil [])]) (x := .v (eL eI w)) (hq_of (g := G) (e0.trans (by kernel_rfl)) hr) rfl rfl) (by kernel_rfl) (by kernel_rfl) ?_
 refine Ops.done (by kernel_rfl) ?_
 refine seqH.n ?_
 have e1 : (G.set r (cB R w (.v (.sl .nil []))))[r]? = some (cB R w (.v (.sl .nil []))) := List.getElem?_set_self hrlt
 have hl1 : (G.set r (cB R w (.v (.sl .nil [])))).length = G.length := by simp
 have hf1 : ∀ j, j ≠ r → (G.set r (cB R w (.v (.sl .nil []))))[j]? = G[j]? := fun j hj => List.getElem?_set_ne (Ne.symm hj)
 refine Ht.forget [0] (Ht.st (σ' := Sm 103 [(0, .ptr r 0)] (G.set r (cB R w (.v (.sl .nil []))))) (by kernel_rfl) ?_)
 generalize G.set r (cB R w (.v (.sl .nil []))) = K at e1 hl1 hf1 ⊢
 have hw1 : w64 ((w.length : Int) + 1) = ((w.length + 1 : Nat) : Int) := w64_nat (by omega)
 refine Ht.seq (by kernel_rfl) ?_
 refine Ht.region hxn (by kernel_rfl) ?_
 refine Ops.seg' 4 4 (by kernel_rfl) ?_
 refine Ops.one' 5 (fun h0 e0 => ldc (i := ti22) (h := h0) (r := r) (off := 4) (cs := [dP eI R.fFrom, dP eI R.fTo, dP eI R.fLeft, dP eI R.fRight, dP eI w, .v (.sl .nil [])]) (d := dP eI w) (hq_of (g := K) (e0.trans (by kernel_rfl)) e1) rfl) (by kernel_rfl) (by kernel_rfl) ?_
 refine Ops.one' 6 (fun h0 e0 => len_r (T := TM) h0 22 3 .plain eI w (by kernel_rfl)) (by kernel_rfl) (by kernel_rfl) ?_
 refine Ops.seg' 1 7 (by kernel_rfl) ?_
 refine Ops.one' 8 (fun h0 e0 => ms14 h0 (x := w64 ((w.length : Int) + 1)) hw1 (by omega)) (by kernel_rfl) (by kernel_rfl) ?_
 refine Ops.seg' 2 10 (by kernel_rfl) ?_
 refine Ops.one' 11 (fun h0 e0 => stc (i := ti22) (h := h0) (r := r) (off := 5) (cs := [dP eI R.fFrom, dP eI R.fTo, dP eI R.fLeft, dP eI R.fRight, dP eI w, .v (.sl .nil [])]) (cs' := [dP eI R.fFrom, dP eI R.fTo, dP eI R.fLeft, dP eI R.fRight, dP eI w, .osl K.length 0 (w.length + 1) false]) (x := .osl K.length 0 (w.length + 1) false) (hq_of (g := K ++ [.row 1 (List.replicate (w.length + 1) (vI 0))]) (e0.trans (by kernel_rfl)) (app_keep e1)) rfl rfl) (by kernel_rfl) (by kernel_rfl) ?_
 refine Ops.done (by kernel_rfl) ?_
 refine seqH.n ?_
 have hmr : (List.replicate (w.length + 1) (0 : Int)).map eI = List.replicate (w.length + 1) (vI 0) := by rw [List.map_replicate]; rfl
 have hob : oB (List.replicate (w.length + 1) (0 : Int)) = .row 1 (List.replicate (w.length + 1) (vI 0)) := by show rowO 1 ((List.replicate (w.length + 1) (0 : Int)).map eI) = _; rw [hmr]; rfl
 have hrb : rB K.length (List.replicate (w.length + 1) (0 : Int)) = .osl K.length 0 (w.length + 1) false := by
  show rowF .nil K.length ((List.replicate (w.length + 1) (0 : Int)).map eI) = _
  rw [hmr]
  simp [rowF, List.replicate_succ]
 have hrk : r < K.length := by omega
 have hI : BInv r R w K.length (List.replicate (w.length + 1) 0) ((K ++ [AObj.row 1 (List.replicate (w.length + 1) (vI 0))]).set r (cB R w (.osl K.length 0 (w.length + 1) false))) := by
  refine ⟨?_, ?_⟩
  ·rw [hrb]; exact List.getElem?_set_self (by simp; omega)
  ·rw [hob]; exact set_keep (by omega) (mid_get _ _ _)
 have hf2 : ∀ j, j < K.length → j ≠ r → ((K ++ [AObj.row 1 (List.replicate (w.length + 1) (vI 0))]).set r (cB R w (.osl K.length 0 (w.length + 1) false)))[j]? = K[j]? := fun j h1 h2 => by
  rw [List.getElem?_set_ne (Ne.symm h2), List.getElem?_append_left h1]
 have hl2 : ((K ++ [AObj.row 1 (List.replicate (w.length + 1) (vI 0))]).set r (cB R w (.osl K.length 0 (w.length + 1) false))).length = K.length + 1 := by simp
 refine Ht.forget [0] (Ht.st (σ' := Sm 103 [(0, .ptr r 0)] ((K ++ [AObj.row 1 (List.replicate (w.length + 1) (vI 0))]).set r (cB R w (.osl K.length 0 (w.length + 1) false)))) (by kernel_rfl) ?_)
 generalize (K ++ [AObj.row 1 (List.replicate (w.length + 1) (vI 0))]).set r (cB R w (.osl K.length 0 (w.length + 1) false)) = K2 at hI hf2 hl2 ⊢
 refine Ht.seq (by kernel_rfl) ?_
 refine Ht.region hxn (by kernel_rfl) ?_
 refine Ops.seg' 1 1 (by kernel_rfl) ?_
 refine Ops.done (by kernel_rfl) ?_
 refine seqH.n ?_
 refine Ht.block 0 (by kernel_rfl) ?_
 refine Ht.forget [0, 2] (Ht.st (σ' := S2 r (2 : Nat) K2) (by kernel_rfl) ?_)
 refine outer14 N hI (n0 := 2) (K0 := 200000) ⟨by omega, by omega⟩ hbk fun G' σ h1 h2 h3 h4 => ?_
 refine blkH.x ⟨.inl rfl, U, ?_, rfl, ?_, ?_, ?_⟩
 ·rw [hres]; rfl
 ·rw [h4, ← hl1]; exact h1
 ·intro j hj hjr
  rw [h4, h2 j (by omega), hf2 j (by omega) hjr, hf1 j hjr]
 ·rw [h4, h3, hl2, hl1]
end Go.Abs.Yi
namespace Go.Abs.Yj
open Go.Sort Go.Proofs Go.Abs.Ya Go.Abs.Yb Go.Abs.Yc Go.Abs.Yd Go.Abs.Yh Go.Abs.Yi
set_option linter.unusedVariables false
set_option maxRecDepth 100000
set_option maxHeartbeats 4000000
theorem callN {DR : Prop} {P : Program} {f : Nat} {fn : Func} {c : Code} {T : Nat → Option TI} (hfn : P.funcs[f]? = some fn) (hc : fn.body = some c) (hT : ∀ t i, T t = some i → tiOf P t = some i) {ds : List D} {r : V} {N : Nat}
  (ht : Ht DR P (bodyOf P f) (startIn P f ds []) (fun e σ => (e = .normal ∨ e = .ret) ∧ ∃ d, resultsD T σ (resOf P f) = some d ∧ frz σ.heap N d = some r)) : CallT DR P f ds [] fun d h' => d = .v r ∧ h' = [] := by
 intro S β w us hrel hi
 have hβ : β = [] := List.eq_nil_of_length_eq_zero hi.len
 subst hβ
 refine (callT_of_ht (Qc := fun d h' => frz h' N d = some r) hfn hc hT ht S [] w us hrel hi).mono ?_
 rintro e w' ⟨d, h', v, S1, β1, hz, rfl, hE1, hI1, hR1⟩
 have hin : ∀ b i, withOwn S1 β1 h' b i → S b i ∨ w.heap.size ≤ b := by
  intro b i hs
  rcases hs with hs | ⟨q, o, c, k, g1, g2, g3⟩
  ·rcases hE1.stay b i hs with g | g | ⟨q, c, k, g⟩
   ·exact .inl g
   ·exact .inr g
   ·simp at g
  ·obtain ⟨k', rfl⟩ := hI1.kpos g1 g2 g3
   rcases hE1.fresh q b c k' g3 with g | ⟨q', c', k'', g⟩
   ·exact .inr g
   ·simp at g
 obtain ⟨b1, b2⟩ := back_from (S' := withOwn S1 β1 h') (h1 := h') hi hE1 (fun _ _ h => h) (fun b i hs => .inl (hE1.keeps b i hs).1) hin (own_sb hI1)
 exact ⟨.v r, [], v, _, [], ⟨rfl, rfl⟩, rfl, b1, b2, .v _ _ (frz_sound hI1 N _ _ _ hz hR1)⟩
theorem call16 (n m : Nat) (hn : m + 3 ≤ n) (b : S45) (al : List Int) (o : List S75 × List S79) (h : f16 m b al = some o) : CallT False Try.prog 16 [.vptr (bc b), dP eI al] [] fun d h' => d = .v (.tuple [eL e75 o.1, eL e79 o.2]) ∧ h' = [] :=
 callN (c := bodyOf Try.prog 16) Try.func16 (by kernel_rfl) TM_ok (pl16 n m hn b al o h)
theorem call15 (n m : Nat) (hn : m + 3 ≤ n) (b : S45) (L : List S75) (M : List S79) (o : S28) (h : f15 m b L M = some o) : CallT False Try.prog 15 [.vptr (bc b), dP e75 L, dP e79 M] [] fun d h' => d = .v (e28 o) ∧ h' = [] :=
 callN (c := bodyOf Try.prog 15) Try.func15 (by kernel_rfl) TM_ok (ma15 n m hn b L M o h)
theorem is16 : Is Try.prog 16 := ⟨Try.f16, Try.func16, by kernel_rfl, by kernel_rfl⟩
theorem is15 : Is Try.prog 15 := ⟨Try.f15, Try.func15, by kernel_rfl, by kernel_rfl⟩
noncomputable def gP (n : Nat) (ds1 : List D) (r1 : V) (ds2 : List D) (r2 : V) : Calling := fun f ds h => @ite _ (f = 16 ∧ ds = ds1 ∧ h = []) (Classical.propDecidable _) (some (.v r1, [])) (@ite _ (f = 15 ∧ ds = ds2 ∧ h = []) (Classical.propDecidable _) (some (.v r2, [])) (run Try.prog E n f ds h))
noncomputable def XP (n : Nat) (ds1 : List D) (r1 : V) (ds2 : List D) (r2 : V) : Cx := ⟨{ E with T := TM, dynP := true, pureF := fun f => E.pureF f || f == 16 || f == 15 }, gP n ds1 r1 ds2 r2, ⟨fun _ => [], fun _ => [], fun _ => []⟩, [], n⟩
theorem hxP (n : Nat) {ds1 : List D} {r1 : V} {ds2 : List D} {r2 : V} (h1 : CallT False Try.prog 16 ds1 [] fun d h' => d = .v r1 ∧ h' = []) (h2 : CallT False Try.prog 15 ds2 [] fun d h' => d = .v r2 ∧ h' = []) : Hx False Try.prog (XP n ds1 r1 ds2 r2) := by
 refine ⟨good.mixed, TM_ok, fun f ds h d h' hh => ?_⟩
 have hh2 : @ite _ (f = 16 ∧ ds = ds1 ∧ h = []) (Classical.propDecidable _) (some (.v r1, [])) (@ite _ (f = 15 ∧ ds = ds2 ∧ h = []) (Classical.propDecidable _) (some (.v r2, [])) (run Try.prog E n f ds h)) = some (d, h') := hh
 clear hh
 by_cases e : f = 16 ∧ ds = ds1 ∧ h = []
 ·rw [if_pos e] at hh2
  obtain ⟨rfl, rfl, rfl⟩ := e
  cases hh2
  refine ⟨is16, fun S β w vs hr hi => (h1 S β w vs hr hi).mono ?_⟩
  rintro e w' ⟨d, h', v, S', β', ⟨rfl, rfl⟩, h2⟩
  exact ⟨v, S', β', h2⟩
 ·rw [if_neg e] at hh2
  by_cases e : f = 15 ∧ ds = ds2 ∧ h = []
  ·rw [if_pos e] at hh2
   obtain ⟨rfl, rfl, rfl⟩ := e
   cases hh2
   refine ⟨is15, fun S β w vs hr hi => (h2 S β w vs hr hi).mono ?_⟩
   rintro e w' ⟨d, h', v, S', β', ⟨rfl, rfl⟩, h2⟩
   exact ⟨v, S', β', h2⟩
  ·rw [if_neg e] at hh2
   exact run_sound good n f ds h d h' hh2
end Go.Abs.Yj
namespace Go.Abs.Yk
open Go.Sort Go.Proofs Go.Abs.Ya Go.Abs.Yb Go.Abs.Yc Go.Abs.Yd Go.Abs.Yh Go.Abs.Yi Go.Abs.Yj
set_option linter.unusedVariables false
set_option maxRecDepth 100000
set_option maxHeartbeats 4000000
abbrev cR (R : S23) : AObj := .cells [dP eI R.fFrom, dP eI R.fTo, dP eI R.fLeft, dP eI R.fRight]
abbrev H0 (R : S23) : List AObj := [cR R, zM, c00]
noncomputable def C5 : Code := bodyOf Try.prog 5
noncomputable abbrev T5 : Code := Abs.cR (Abs.cR (Abs.cR (Abs.cR C5)))
def buildM (m : Nat) (R : S23) (al : List Int) : Option S28 := match begM m R with
 | none => none
 | some (w, bk) => match f16 m ⟨R, w, bk⟩ al with
  | none => none
  | some (L, M) => f15 m ⟨R, w, bk⟩ L M
theorem five {h : List AObj} {x0 x1 x2 x3 x4 : AObj} (hl : h.length = 5) (e0 : h[0]? = some x0) (e1 : h[1]? = some x1) (e2 : h[2]? = some x2) (e3 : h[3]? = some x3) (e4 : h[4]? = some x4) : h = [x0, x1, x2, x3, x4] := by
 match h, hl with
 | [a, b, c, d, e], _ => cases e0; cases e1; cases e2; cases e3; cases e4; rfl
abbrev Sb (R : S23) (al : List Int) (b : S45) : St := Sm 79 [(1, dP eI al), (4, .ptr 1 0), (5, .ptr 2 0), (9, .vptr (bc b))] [cR R, zM, c00, .dead, .dead]
theorem begin5 (n m : Nat) (hn : m + 3 ≤ n) {R : S23} {al : List Int} {w bk : List Int} (hb : begM m R = some (w, bk)) {Q : Post} (hQ : Ht False Try.prog (Abs.cR (Abs.cR T5)) (Sb R al ⟨R, w, bk⟩) Q) :
  Ht False Try.prog T5 (Sm 79 [(1, dP eI al), (2, .ptr 0 0), (4, .ptr 1 0), (5, .ptr 2 0)] (H0 R)) Q := by
 have hxn := hxM n
 refine Ht.seq (by kernel_rfl) ?_
 refine Ht.region hxn (by kernel_rfl) ?_
 refine Ops.seg' 4 4 (by kernel_rfl) ?_
 refine Ops.done (by kernel_rfl) ?_
 refine seqH.n ?_
 refine Ht.forget [1, 4, 5, 9] (Ht.st (σ' := Sm 79 [(1, dP eI al), (4, .ptr 1 0), (5, .ptr 2 0), (9, .ptr 3 0)] (H0 R ++ [.cells [dP eI R.fFrom, dP eI R.fTo, dP eI R.fLeft, dP eI R.fRight, .v (.sl .nil []), .v (.sl .nil [])]])) (by kernel_rfl) ?_)
 have hc := call14 n m hn (r := 3) (R := R) (G := H0 R ++ [.cells [dP eI R.fFrom, dP eI R.fTo, dP eI R.fLeft, dP eI R.fRight, .v (.sl .nil []), .v (.sl .nil [])]]) rfl hb
 refine Ht.seq (by kernel_rfl) ?_
 refine Ht.regionCall' hxn 1 (t := 58) (args := [.tmp 57]) (Qc := fun d h' => d = U ∧ h' = [cR R, zM, c00, cB R w (rB 4 bk), oB bk]) (by kernel_rfl) ⟨Try.f14, Try.func14, by kernel_rfl, by kernel_rfl⟩ ?_
 refine OpsU.seg' 1 1 (by kernel_rfl) ?_
 refine OpsU.done ⟨callT_eq (by kernel_rfl) (by kernel_rfl) (hc.mono fun d h' hd => ?_), fun d h' hd => ?_⟩
 ·obtain ⟨rfl, h1, h2, h3⟩ := hd
  exact ⟨rfl, five h3 (h2 0 (by show 0 < 4; omega) (by decide)) (h2 1 (by show 1 < 4; omega) (by decide)) (h2 2 (by show 2 < 4; omega) (by decide)) h1.hr h1.hq⟩
 ·obtain ⟨rfl, rfl⟩ := hd
  refine Ops.done (by kernel_rfl) ?_
  refine seqH.n ?_
  refine Ht.forget [1, 4, 5, 9] (Ht.st (σ' := Sm 79 [(1, dP eI al), (4, .ptr 1 0), (5, .ptr 2 0), (9, .ptr 3 0)] [cR R, zM, c00, cB R w (rB 4 bk), oB bk]) (by kernel_rfl) ?_)
  have hz : allM (frz [.dead, .dead, .dead, cB R w (rB 4 bk), oB bk] 6) [dP eI R.fFrom, dP eI R.fTo, dP eI R.fLeft, dP eI R.fRight, dP eI w, rB 4 bk] = some (bc ⟨R, w, bk⟩) := by
   have f5 : frz [.dead, .dead, .dead, cB R w (rB 4 bk), oB bk] 6 (rB 4 bk) = some (.sl .plain (bk.map eI)) := row_frz _ 5 4 1 _ rfl
   simp only [allM, f5]
   rfl
  refine Ht.freeze (t := 9) (r := 3) (n := 6) (h1 := [cR R, zM, c00, .dead, .dead]) (h2 := [.dead, .dead, .dead, cB R w (rB 4 bk), oB bk]) rfl rfl hz rfl rfl ?_ ?_ ?_ ?_
  ·intro q y hq hy
   match q, hq with
   | 0, hq => exact hq
   | 1, hq => exact hq
   | 2, hq => exact hq
   | 3, hq => cases hq; cases hy
   | 4, hq => cases hq; cases hy
   | q + 5, hq => cases hq
  ·intro q y hq hy
   match q, hq with
   | 0, hq => cases hq; cases hy
   | 1, hq => cases hq; cases hy
   | 2, hq => cases hq; cases hy
   | 3, hq => exact hq
   | 4, hq => exact hq
   | q + 5, hq => cases hq
  ·intro q y z hq hy hq2 hz
   match q, hq, hq2 with
   | 0, hq, hq2 => cases hq2; cases hz
   | 1, hq, hq2 => cases hq2; cases hz
   | 2, hq, hq2 => cases hq2; cases hz
   | 3, hq, hq2 => cases hq; cases hy
   | 4, hq, hq2 => cases hq; cases hy
   | q + 5, hq, hq2 => cases hq
  ·exact Ht.st (by kernel_rfl) hQ
theorem callP16 {n : Nat} {ds1 : List D} {r1 : V} {ds2 : List D} {r2 : V} {ds : List D} {h : List AObj} (ha : allM (argP h) ds = some ds1) (hf : ds.all D.freed = true) (hz : plainT r1 = r1) : callD (XP n ds1 r1 ds2 r2).E (XP n ds1 r1 ds2 r2).Γ 16 ds h = some (.v r1, h) := by
 have hp : (XP n ds1 r1 ds2 r2).E.pureF 16 = true := by show (E.pureF 16 || (16 : Nat) == 16 || (16 : Nat) == 15) = true; simp
 have hg : (XP n ds1 r1 ds2 r2).Γ 16 ds1 [] = some (.v r1, []) := if_pos ⟨rfl, rfl, rfl⟩
 have hfz : frz [] 6 (.v r1) = some r1 := by show some (plainT r1) = _; rw [hz]
 simp only [callD, hp, if_true, ha, hg, hfz, hf, Bool.true_or]
theorem callP15 {n : Nat} {ds1 : List D} {r1 : V} {ds2 : List D} {r2 : V} {ds : List D} {h : List AObj} (ha : allM (argP h) ds = some ds2) (hf : ds.all D.freed = true) (hz : plainT r2 = r2) : callD (XP n ds1 r1 ds2 r2).E (XP n ds1 r1 ds2 r2).Γ 15 ds h = some (.v r2, h) := by
 have hp : (XP n ds1 r1 ds2 r2).E.pureF 15 = true := by show (E.pureF 15 || (15 : Nat) == 16 || (15 : Nat) == 15) = true; simp
 have hg : (XP n ds1 r1 ds2 r2).Γ 15 ds2 [] = some (.v r2, []) := (if_neg fun e => absurd e.1 (by decide)).trans (if_pos ⟨rfl, rfl, rfl⟩)
 have hfz : frz [] 6 (.v r2) = some r2 := by show some (plainT r2) = _; rw [hz]
 simp only [callD, hp, if_true, ha, hg, hfz, hf, Bool.true_or]
def limM (o : S28) : S28 × S30 := if o.fStates > 400 ∨ (o.fArcs.length : Int) > 2000 then (⟨0, [], []⟩, ⟨17, -1⟩) else (o, ⟨0, 0⟩)
def Fin5 (o : S28 × S30) (σ : St) : Prop := ∃ d, resultsD TM σ (resOf Try.prog 5) = some d ∧ frz σ.heap 15 d = some (.tuple [e28 o.1, e30 o.2])
abbrev mV (o : S28) : AObj := .cells [dI o.fStates, dP e53 o.fArcs, dP e58 o.fFinals]
theorem made5 (n m : Nat) (hn : m + 3 ≤ n) {R : S23} {al : List Int} {b : S45} {L : List S75} {M : List S79} (h16 : f16 m b al = some (L, M)) {o : S28} (h15 : f15 m b L M = some o) {Q : Post}
  (hQ : Ht False Try.prog (Abs.cR (Abs.cR (Abs.cR T5))) (Sm 79 [(4, .ptr 1 0), (5, .ptr 2 0), (10, .ptr 5 0)] [cR R, zM, c00, .dead, .dead, mV o]) Q) : Ht False Try.prog (Abs.cR (Abs.cR T5)) (Sb R al b) Q := by
 have hxn := hxP n (call16 n m hn b al (L, M) h16) (call15 n m hn b L M o h15)
 have c16 := @callP16 n [.vptr (bc b), dP eI al] (.tuple [eL e75 L, eL e79 M]) [.vptr (bc b), dP e75 L, dP e79 M] (e28 o)
 have c15 := @callP15 n [.vptr (bc b), dP eI al] (.tuple [eL e75 L, eL e79 M]) [.vptr (bc b), dP e75 L, dP e79 M] (e28 o)
 refine Ht.seq (by kernel_rfl) ?_
 refine Ht.region hxn (by kernel_rfl) ?_
 refine Ops.seg' 3 3 (by kernel_rfl) ?_
 refine Ops.one' 4 (fun h0 e0 => c16 (ds := [.vptr (bc b), dP eI al]) (h := h0) rfl rfl rfl) (by kernel_rfl) (by kernel_rfl) ?_
 refine Ops.seg' 2 6 (by kernel_rfl) ?_
 refine Ops.one' 7 (fun h0 e0 => c15 (ds := [.vptr (bc b), dP e75 L, dP e79 M]) (h := h0) rfl rfl rfl) (by kernel_rfl) (by kernel_rfl) ?_
 refine Ops.seg' 2 9 (by kernel_rfl) ?_
 refine Ops.done (by kernel_rfl) ?_
 refine seqH.n ?_
 exact Ht.forget [4, 5, 10] (Ht.st (by kernel_rfl) hQ)
theorem bsub {x b : Bool} (h : x = b) (h0 : List AObj) : (some (D.v (.bool x), h0) : Option (D × List AObj)) = some (D.v (.bool b), h0) := by rw [h]
theorem end5 (n m : Nat) (hn : m + 3 ≤ n) {R : S23} {o : S28} {Q : Post} (hQ : ∀ σ, Fin5 (limM o) σ → Q .ret σ) :
  Ht False Try.prog (Abs.cR (Abs.cR (Abs.cR T5))) (Sm 79 [(4, .ptr 1 0), (5, .ptr 2 0), (10, .ptr 5 0)] [cR R, zM, c00, .dead, .dead, mV o]) Q := by
 have hxn := hxM n
 have bad : o.fStates > 400 ∨ (o.fArcs.length : Int) > 2000 → Ht False Try.prog (cL (Abs.cR (cL (Abs.cR (Abs.cR (Abs.cR T5)))))) (Sm 79 [(4, .ptr 1 0), (5, .ptr 2 0), (10, .ptr 5 0)] [cR R, zM, c00, .dead, .dead, mV o]) (seqH False Try.prog (Abs.cR (Abs.cR (Abs.cR (Abs.cR T5)))) Q) := fun hb => by
  refine Ht.seq (by kernel_rfl) ?_
  refine Ht.region hxn (by kernel_rfl) ?_
  refine Ops.seg' 1 1 (by kernel_rfl) ?_
  refine Ops.one' 2 (fun h0 e0 => call_ok (E' := (XM n).E) (h := h0) (by kernel_rfl) (Args.v (vI 17) (eI 17) (by kernel_rfl) (Args.v (vI (-1)) (eI (-1)) (by kernel_rfl) Args.nil)) (ok13 m 17 (-1) ⟨17, -1⟩ rfl n (by omega))) (by kernel_rfl) (by kernel_rfl) ?_
  refine Ops.seg' 2 4 (by kernel_rfl) ?_
  refine Ops.done (by kernel_rfl) ?_
  refine seqH.n ?_
  refine Ht.ret (by kernel_rfl) ?_
  refine seqH.r (hQ _ ?_)
  unfold limM
  rw [if_pos hb]
  exact ⟨.v (.tuple [.agg [vI 0, .sl .nil [], .sl .nil []], e30 ⟨17, -1⟩]), by kernel_rfl, by kernel_rfl⟩
 have ok : ¬ (o.fStates > 400 ∨ (o.fArcs.length : Int) > 2000) → Ht False Try.prog (Abs.cR (Abs.cR (Abs.cR (Abs.cR T5)))) (Sm 79 [(4, .ptr 1 0), (5, .ptr 2 0), (10, .ptr 5 0)] [cR R, zM, c00, .dead, .dead, mV o]) Q := fun hb => by
  refine Ht.seq (by kernel_rfl) ?_
  refine Ht.region hxn (by kernel_rfl) ?_
  refine Ops.seg' 4 4 (by kernel_rfl) ?_
  refine Ops.done (by kernel_rfl) ?_
  refine seqH.n ?_
  refine Ht.ret (by kernel_rfl) ?_
  refine hQ _ ?_
  unfold limM
  rw [if_neg hb]
  exact ⟨.v (.tuple [e28 o, e30 ⟨0, 0⟩]), by kernel_rfl, by kernel_rfl⟩
 refine Ht.seq (by kernel_rfl) ?_
 refine Ht.seq (by kernel_rfl) ?_
 by_cases h1 : o.fStates > 400
 ·refine Ht.region hxn (by kernel_rfl) ?_
  refine Ops.seg' 2 2 (by kernel_rfl) ?_
  refine Ops.one' 3 (fun h0 e0 => bsub (x := decide (o.fStates > 400)) (b := true) (decide_eq_true h1) h0) (by kernel_rfl) (by kernel_rfl) ?_
  refine Ops.seg' 6 9 (by kernel_rfl) ?_
  refine Ops.done (by kernel_rfl) ?_
  refine seqH.n ?_
  refine Ht.cond true (by kernel_rfl) (by kernel_rfl) (fun _ => ?_) (fun hc => nomatch hc)
  exact Ht.forget [4, 5, 10] (Ht.st (by kernel_rfl) (bad (.inl h1)))
 ·refine Ht.region hxn (by kernel_rfl) ?_
  refine Ops.seg' 2 2 (by kernel_rfl) ?_
  refine Ops.one' 3 (fun h0 e0 => bsub (x := decide (o.fStates > 400)) (b := false) (decide_eq_false h1) h0) (by kernel_rfl) (by kernel_rfl) ?_
  refine Ops.seg' 3 6 (by kernel_rfl) ?_
  refine Ops.one' 7 (fun h0 e0 => len_r (T := TM) h0 26 54 .plain e53 o.fArcs (by kernel_rfl)) (by kernel_rfl) (by kernel_rfl) ?_
  refine Ops.seg' 2 9 (by kernel_rfl) ?_
  refine Ops.done (by kernel_rfl) ?_
  refine seqH.n ?_
  refine Ht.cond (decide ((o.fArcs.length : Int) > 2000)) (by kernel_rfl) (by kernel_rfl) (fun hc => ?_) (fun hc => ?_)
  ·exact Ht.forget [4, 5, 10] (Ht.st (by kernel_rfl) (bad (.inr (of_decide_eq_true hc))))
  ·refine Ht.skip (by kernel_rfl) ?_
   refine seqH.n ?_
   refine Ht.forget [4, 5, 10] (Ht.st (by kernel_rfl) (ok fun e => ?_))
   rcases e with e | e
   ·exact h1 e
   ·exact of_decide_eq_false hc e
def alM (al : List Int) : Nat → Nat → Option S30
 | 0, _ => none
 | K + 1, i => match al[i]? with
  | none => none
  | some x => if x < 1 ∨ x > 1114111 then some ⟨3, i⟩ else if 0 < i ∧ (al[i - 1]?).any (fun y => decide (y ≥ x)) = true then some ⟨13, i⟩ else alM al K (i + 1)
def f5 (m : Nat) (R : S23) (al : List Int) : Option (S28 × S30) := match f12 m R with
 | none => none
 | some e => if e ≠ 0 then some (⟨0, [], []⟩, ⟨e, -1⟩) else if (al.length : Int) > 300 then some (⟨0, [], []⟩, ⟨2, -2⟩) else match alM al al.length 0 with
  | some f => some (⟨0, [], []⟩, f)
  | none => (buildM m R al).map limM
theorem tail5 (n m : Nat) (hn : m + 3 ≤ n) {R : S23} {al : List Int} {o : S28} (hb : buildM m R al = some o) {Q : Post} (hQ : ∀ σ, Fin5 (limM o) σ → Q .ret σ) : Ht False Try.prog T5 (Sm 79 [(1, dP eI al), (2, .ptr 0 0), (4, .ptr 1 0), (5, .ptr 2 0)] (H0 R)) Q := by
 unfold buildM at hb
 split at hb
 ·cases hb
 rename_i w bk h1
 split at hb
 ·cases hb
 rename_i L M h2
 exact begin5 n m hn h1 (made5 n m hn h2 hb (end5 n m hn hQ))
end Go.Abs.Yk
namespace Go.Abs.Yl
open Go.Sort Go.Proofs Go.Abs.Ya Go.Abs.Yb Go.Abs.Yc Go.Abs.Yd Go.Abs.Yh Go.Abs.Yi Go.Abs.Yj Go.Abs.Yk
set_option linter.unusedVariables false
set_option maxRecDepth 100000
set_option maxHeartbeats 4000000
noncomputable abbrev LPa : Code := cL (cR (cL (cR (cR (cR C5)))))
noncomputable abbrev LBa : Code := cL LPa
noncomputable abbrev BKa : Code := cL (cL (cR (cR LBa)))
abbrev Sl (R : S23) (al : List Int) (i : Int) : St := Sm 79 [(1, dP eI al), (2, .ptr 0 0), (4, .ptr 1 0), (5, .ptr 2 0), (23, dP eI al), (24, dI al.length), (25, dI i)] (H0 R)
theorem label5 (n m : Nat) (hn : m + 3 ≤ n) {R : S23} {al : List Int} {i : Nat} (hi : i < 1000000) {x : Int} (hx : al[i]? = some x) {Q : Post}
  (hQ1 : x < 1 ∨ x > 1114111 → ∀ σ, Fin5 (⟨0, [], []⟩, ⟨3, i⟩) σ → Q .ret σ)
  (hQ2 : ¬ (x < 1 ∨ x > 1114111) → 0 < i ∧ (al[i - 1]?).any (fun y => decide (y ≥ x)) = true → ∀ σ, Fin5 (⟨0, [], []⟩, ⟨13, i⟩) σ → Q .ret σ)
  (hQ3 : ¬ (x < 1 ∨ x > 1114111) → ¬ (0 < i ∧ (al[i - 1]?).any (fun y => decide (y ≥ x)) = true) → ∀ σ, Abs.forget [1, 2, 4, 5, 23, 24, 25] σ = Sl R al i → Q .normal σ) :
  Ht False Try.prog BKa (Sl R al i) Q := by
 have hxn := hxM n
 have ix : idx al (i : Int) = some x := by rw [idx_get]; exact hx
 refine Ht.seq (by kernel_rfl) ?_
 refine Ht.region hxn (by kernel_rfl) ?_
 refine Ops.seg' 1 1 (by kernel_rfl) ?_
 refine Ops.one' 2 (fun h0 e0 => ix_r (T := TM) h0 22 3 1 .plain eI al i x ix (by kernel_rfl) (by kernel_rfl) (fun _ => rfl)) (by kernel_rfl) (by kernel_rfl) ?_
 refine Ops.seg' 3 5 (by kernel_rfl) ?_
 refine Ops.done (by kernel_rfl) ?_
 refine seqH.n ?_
 refine Ht.forget [1, 2, 4, 5, 7, 8, 23, 24, 25] (Ht.st (σ' := Sm 79 [(1, dP eI al), (2, .ptr 0 0), (4, .ptr 1 0), (5, .ptr 2 0), (7, dI i), (8, dI x), (23, dP eI al), (24, dI al.length), (25, dI i)] (H0 R)) (by kernel_rfl) ?_)
 have bad : x < 1 ∨ x > 1114111 → Ht False Try.prog (cL (cR (cL (cR BKa)))) (Sm 79 [(1, dP eI al), (2, .ptr 0 0), (4, .ptr 1 0), (5, .ptr 2 0), (7, dI i), (8, dI x), (23, dP eI al), (24, dI al.length), (25, dI i)] (H0 R)) (seqH False Try.prog (cR (cR BKa)) Q) := fun hb => by
  refine Ht.seq (by kernel_rfl) ?_
  refine Ht.region hxn (by kernel_rfl) ?_
  refine Ops.seg' 2 2 (by kernel_rfl) ?_
  refine Ops.one' 3 (fun h0 e0 => call_ok (E' := (XM n).E) (h := h0) (by kernel_rfl) (Args.v (vI 3) (eI 3) (by kernel_rfl) (Args.v (vI i) (eI i) (by kernel_rfl) Args.nil)) (ok13 m 3 i ⟨3, i⟩ rfl n (by omega))) (by kernel_rfl) (by kernel_rfl) ?_
  refine Ops.seg' 2 5 (by kernel_rfl) ?_
  refine Ops.done (by kernel_rfl) ?_
  refine seqH.n ?_
  refine Ht.ret (by kernel_rfl) ?_
  refine seqH.r (hQ1 hb _ ?_)
  exact ⟨.v (.tuple [.agg [vI 0, .sl .nil [], .sl .nil []], e30 ⟨3, i⟩]), by kernel_rfl, by kernel_rfl⟩
 refine Ht.seq (by kernel_rfl) ?_
 refine Ht.seq (by kernel_rfl) ?_
 by_cases h1 : x < 1
 ·refine Ht.region hxn (by kernel_rfl) ?_
  refine Ops.seg' 1 1 (by kernel_rfl) ?_
  refine Ops.one' 2 (fun h0 e0 => Yk.bsub (x := decide (x < 1)) (b := true) (decide_eq_true h1) h0) (by kernel_rfl) (by kernel_rfl) ?_
  refine Ops.seg' 4 6 (by kernel_rfl) ?_
  refine Ops.done (by kernel_rfl) ?_
  refine seqH.n ?_
  refine Ht.cond true (by kernel_rfl) (by kernel_rfl) (fun _ => ?_) (fun hc => nomatch hc)
  exact Ht.forget [1, 2, 4, 5, 7, 8, 23, 24, 25] (Ht.st (by kernel_rfl) (bad (.inl h1)))
 ·refine Ht.region hxn (by kernel_rfl) ?_
  refine Ops.seg' 1 1 (by kernel_rfl) ?_
  refine Ops.one' 2 (fun h0 e0 => Yk.bsub (x := decide (x < 1)) (b := false) (decide_eq_false h1) h0) (by kernel_rfl) (by kernel_rfl) ?_
  refine Ops.seg' 4 6 (by kernel_rfl) ?_
  refine Ops.done (by kernel_rfl) ?_
  refine seqH.n ?_
  refine Ht.cond (decide (x > 1114111)) (by kernel_rfl) (by kernel_rfl) (fun hc => ?_) (fun hc => ?_)
  ·exact Ht.forget [1, 2, 4, 5, 7, 8, 23, 24, 25] (Ht.st (by kernel_rfl) (bad (.inr (of_decide_eq_true hc))))
  ·have hnb : ¬ (x < 1 ∨ x > 1114111) := fun e => e.elim h1 (of_decide_eq_false hc)
   refine Ht.skip (by kernel_rfl) ?_
   refine seqH.n ?_
   refine Ht.forget [1, 2, 4, 5, 7, 8, 23, 24, 25] (Ht.st (σ' := Sm 79 [(1, dP eI al), (2, .ptr 0 0), (4, .ptr 1 0), (5, .ptr 2 0), (7, dI i), (8, dI x), (23, dP eI al), (24, dI al.length), (25, dI i)] (H0 R)) (by kernel_rfl) ?_)
   have bad2 : 0 < i ∧ (al[i - 1]?).any (fun y => decide (y ≥ x)) = true → Ht False Try.prog (cL (cR (cR (cR BKa)))) (Sm 79 [(1, dP eI al), (2, .ptr 0 0), (4, .ptr 1 0), (5, .ptr 2 0), (7, dI i), (8, dI x), (23, dP eI al), (24, dI al.length), (25, dI i)] (H0 R)) Q := fun hb => by
    refine Ht.seq (by kernel_rfl) ?_
    refine Ht.region hxn (by kernel_rfl) ?_
    refine Ops.seg' 2 2 (by kernel_rfl) ?_
    refine Ops.one' 3 (fun h0 e0 => call_ok (E' := (XM n).E) (h := h0) (by kernel_rfl) (Args.v (vI 13) (eI 13) (by kernel_rfl) (Args.v (vI i) (eI i) (by kernel_rfl) Args.nil)) (ok13 m 13 i ⟨13, i⟩ rfl n (by omega))) (by kernel_rfl) (by kernel_rfl) ?_
    refine Ops.seg' 2 5 (by kernel_rfl) ?_
    refine Ops.done (by kernel_rfl) ?_
    refine seqH.n ?_
    refine Ht.ret (by kernel_rfl) ?_
    refine hQ2 hnb hb _ ?_
    exact ⟨.v (.tuple [.agg [vI 0, .sl .nil [], .sl .nil []], e30 ⟨13, i⟩]), by kernel_rfl, by kernel_rfl⟩
   refine Ht.seq (by kernel_rfl) ?_
   by_cases h2 : 0 < i
   ·obtain ⟨y, hy⟩ : ∃ y, al[i - 1]? = some y := ⟨_, List.getElem?_eq_getElem (by have := lt_of_getElem? hx; omega)⟩
    have hwi : w64 ((i : Int) - 1) = ((i - 1 : Nat) : Int) := by rw [w64_id ⟨by omega, by omega⟩]; omega
    have iy : idx al (w64 ((i : Int) - 1)) = some y := by rw [hwi, idx_get]; exact hy
    refine Ht.region hxn (by kernel_rfl) ?_
    refine Ops.seg' 1 1 (by kernel_rfl) ?_
    refine Ops.one' 2 (fun h0 e0 => Yk.bsub (x := decide ((i : Int) > 0)) (b := true) (decide_eq_true (by omega)) h0) (by kernel_rfl) (by kernel_rfl) ?_
    refine Ops.seg' 4 6 (by kernel_rfl) ?_
    refine Ops.one' 7 (fun h0 e0 => ix_r (T := TM) h0 22 3 1 .plain eI al (w64 ((i : Int) - 1)) y iy (by kernel_rfl) (by kernel_rfl) (fun _ => rfl)) (by kernel_rfl) (by kernel_rfl) ?_
    refine Ops.seg' 4 11 (by kernel_rfl) ?_
    refine Ops.done (by kernel_rfl) ?_
    refine seqH.n ?_
    refine Ht.cond (decide (y ≥ x)) (by kernel_rfl) (by kernel_rfl) (fun hc2 => ?_) (fun hc2 => ?_)
    ·exact Ht.forget [1, 2, 4, 5, 7, 8, 23, 24, 25] (Ht.st (by kernel_rfl) (bad2 ⟨h2, by rw [hy]; exact hc2⟩))
    ·refine Ht.skip (by kernel_rfl) ?_
     exact hQ3 hnb (fun e => by have := e.2; rw [hy] at this; rw [show (some y).any (fun y => decide (y ≥ x)) = decide (y ≥ x) from rfl, hc2] at this; cases this) _ (by kernel_rfl)
   ·refine Ht.region hxn (by kernel_rfl) ?_
    refine Ops.seg' 1 1 (by kernel_rfl) ?_
    refine Ops.one' 2 (fun h0 e0 => Yk.bsub (x := decide ((i : Int) > 0)) (b := false) (decide_eq_false (by omega)) h0) (by kernel_rfl) (by kernel_rfl) ?_
    refine Ops.seg' 9 11 (by kernel_rfl) ?_
    refine Ops.done (by kernel_rfl) ?_
    refine seqH.n ?_
    refine Ht.cond false (by kernel_rfl) (by kernel_rfl) (fun hc => nomatch hc) (fun _ => ?_)
    refine Ht.skip (by kernel_rfl) ?_
    exact hQ3 hnb (fun e => h2 e.1) _ (by kernel_rfl)
def AL (R : S23) (al : List Int) (goal : Option S30) : Nat → St → Prop := fun K σ => ∃ i : Nat, i + K = al.length ∧ alM al K i = goal ∧ Abs.forget [1, 2, 4, 5, 23, 24, 25] σ = Sl R al i
theorem labels5 (n m : Nat) (hn : m + 3 ≤ n) {R : S23} {al : List Int} (hl : al.length ≤ 300) {Q : Post}
  (hQ1 : ∀ f, alM al al.length 0 = some f → ∀ σ, Fin5 (⟨0, [], []⟩, f) σ → Q .ret σ)
  (hQ2 : alM al al.length 0 = none → ∀ σ, Abs.forget [1, 2, 4, 5] σ = Sm 79 [(1, dP eI al), (2, .ptr 0 0), (4, .ptr 1 0), (5, .ptr 2 0)] (H0 R) → Q (.exit 0) σ) :
  Ht False Try.prog LPa (Sl R al 0) Q := by
 have hxn := hxM n
 generalize hgg : alM al al.length 0 = goal at hQ1 hQ2
 refine Ht.loop (AL R al goal) al.length (by kernel_rfl) ⟨0, by omega, hgg, by kernel_rfl⟩ ?_
 clear hgg
 rintro K σ ⟨i, hi, hg, hσ⟩
 refine Ht.forget [1, 2, 4, 5, 23, 24, 25] (Ht.st hσ ?_)
 clear hσ
 refine Ht.seq (by kernel_rfl) ?_
 refine Ht.region hxn (by kernel_rfl) ?_
 refine Ops.seg' 1 1 (by kernel_rfl) ?_
 refine Ops.done (by kernel_rfl) ?_
 refine seqH.n ?_
 refine Ht.seq (by kernel_rfl) ?_
 refine Ht.cond (decide ((i : Int) < (al.length : Int))) (by kernel_rfl) (by kernel_rfl) (fun hc => ?_) (fun hc => ?_)
 case refine_2 =>
  have hc := of_decide_eq_false hc
  obtain rfl : K = 0 := by omega
  refine Ht.exit (id := 0) (by kernel_rfl) ?_
  exact hQ2 hg.symm _ (by kernel_rfl)
 have hc := of_decide_eq_true hc
 have hlt : i < al.length := by omega
 obtain ⟨K, rfl⟩ : ∃ z, K = z + 1 := ⟨K - 1, by omega⟩
 have hx := List.getElem?_eq_getElem hlt
 generalize al[i] = x at hx
 unfold alM at hg
 rw [hx] at hg
 refine Ht.skip (by kernel_rfl) ?_
 refine seqH.n ?_
 refine Ht.seq (by kernel_rfl) ?_
 refine Ht.block 1 (by kernel_rfl) ?_
 refine Ht.forget [1, 2, 4, 5, 23, 24, 25] (Ht.st (σ' := Sl R al i) (by kernel_rfl) ?_)
 refine label5 n m hn (by omega) hx (fun h1 σ hσ => ?_) (fun h1 h2 σ hσ => ?_) (fun h1 h2 σ hσ => ?_)
 ·simp only [if_pos h1] at hg
  exact hQ1 _ hg.symm σ hσ
 ·simp only [if_neg h1, if_pos h2] at hg
  exact hQ1 _ hg.symm σ hσ
 ·simp only [if_neg h1, if_neg h2] at hg
  refine blkH.n ?_
  refine seqH.n ?_
  refine Ht.forget [1, 2, 4, 5, 23, 24, 25] (Ht.st hσ ?_)
  refine Ht.region hxn (by kernel_rfl) ?_
  refine Ops.seg' 2 2 (by kernel_rfl) ?_
  refine Ops.done (by kernel_rfl) ?_
  refine ⟨K, by omega, i + 1, by omega, hg, ?_⟩
  rw [← w64_nat (by omega)]
  kernel_rfl
theorem comp5 (n m : Nat) (hn : m + 3 ≤ n) (R : S23) (al : List Int) (o : S28 × S30) (h : f5 m R al = some o) :
  Ht False Try.prog (bodyOf Try.prog 5) (startIn Try.prog 5 [.v (e23 R), dP eI al] []) (fun e σ => (e = .normal ∨ e = .ret) ∧ Fin5 o σ) := by
 have hxn := hxM n
 unfold f5 at h
 split at h
 ·cases h
 rename_i e he
 show Ht False Try.prog C5 _ _
 refine Ht.seq (by kernel_rfl) ?_
 refine Ht.region hxn (by kernel_rfl) ?_
 refine Ops.seg' 3 3 (by kernel_rfl) ?_
 refine Ops.done (by kernel_rfl) ?_
 refine seqH.n ?_
 refine Ht.seq (by kernel_rfl) ?_
 refine Ht.seq (by kernel_rfl) ?_
 refine Ht.region hxn (by kernel_rfl) ?_
 refine Ops.seg' 1 1 (by kernel_rfl) ?_
 refine Ops.one' 2 (fun h0 e0 => call_ok (E' := (XM n).E) (h := h0) (by kernel_rfl) (Args.v (e23 R) (e23 R) (by kernel_rfl) Args.nil) (ok12 m R e he n (by omega))) (by kernel_rfl) (by kernel_rfl) ?_
 refine Ops.seg' 1 3 (by kernel_rfl) ?_
 refine Ops.done (by kernel_rfl) ?_
 refine seqH.n ?_
 refine Ht.forget [1, 2, 4, 5, 6] (Ht.st (σ' := Sm 79 [(1, dP eI al), (2, .ptr 0 0), (4, .ptr 1 0), (5, .ptr 2 0), (6, dI e)] (H0 R)) (by kernel_rfl) ?_)
 refine Ht.seq (by kernel_rfl) ?_
 refine Ht.region hxn (by kernel_rfl) ?_
 refine Ops.seg' 2 2 (by kernel_rfl) ?_
 refine Ops.done (by kernel_rfl) ?_
 refine seqH.n ?_
 refine Ht.cond (e != 0) (by kernel_rfl) (by kernel_rfl) (fun hc => ?_) (fun hc => ?_)
 ·have hc : e ≠ 0 := by simpa using hc
  rw [if_pos hc] at h
  cases h
  refine Ht.seq (by kernel_rfl) ?_
  refine Ht.region hxn (by kernel_rfl) ?_
  refine Ops.seg' 2 2 (by kernel_rfl) ?_
  refine Ops.one' 3 (fun h0 e0 => call_ok (E' := (XM n).E) (h := h0) (by kernel_rfl) (Args.v (vI e) (eI e) (by kernel_rfl) (Args.v (vI (-1)) (eI (-1)) (by kernel_rfl) Args.nil)) (ok13 m e (-1) ⟨e, -1⟩ rfl n (by omega))) (by kernel_rfl) (by kernel_rfl) ?_
  refine Ops.seg' 2 5 (by kernel_rfl) ?_
  refine Ops.done (by kernel_rfl) ?_
  refine seqH.n ?_
  refine Ht.ret (by kernel_rfl) ?_
  exact ⟨.inr rfl, .v (.tuple [.agg [vI 0, .sl .nil [], .sl .nil []], e30 ⟨e, -1⟩]), by kernel_rfl, by kernel_rfl⟩
 have hc : ¬ e ≠ 0 := by simpa using hc
 rw [if_neg hc] at h
 refine Ht.skip (by kernel_rfl) ?_
 refine seqH.n ?_
 refine Ht.seq (by kernel_rfl) ?_
 refine Ht.seq (by kernel_rfl) ?_
 refine Ht.region hxn (by kernel_rfl) ?_
 refine Ops.seg' 1 1 (by kernel_rfl) ?_
 refine Ops.one' 2 (fun h0 e0 => len_r (T := TM) h0 22 3 .plain eI al (by kernel_rfl)) (by kernel_rfl) (by kernel_rfl) ?_
 refine Ops.seg' 1 3 (by kernel_rfl) ?_
 refine Ops.done (by kernel_rfl) ?_
 refine seqH.n ?_
 refine Ht.cond (decide ((al.length : Int) > 300)) (by kernel_rfl) (by kernel_rfl) (fun hl => ?_) (fun hl => ?_)
 ·rw [if_pos (of_decide_eq_true hl)] at h
  cases h
  refine Ht.seq (by kernel_rfl) ?_
  refine Ht.region hxn (by kernel_rfl) ?_
  refine Ops.seg' 1 1 (by kernel_rfl) ?_
  refine Ops.one' 2 (fun h0 e0 => call_ok (E' := (XM n).E) (h := h0) (by kernel_rfl) (Args.v (vI 2) (eI 2) (by kernel_rfl) (Args.v (vI (-2)) (eI (-2)) (by kernel_rfl) Args.nil)) (ok13 m 2 (-2) ⟨2, -2⟩ rfl n (by omega))) (by kernel_rfl) (by kernel_rfl) ?_
  refine Ops.seg' 2 4 (by kernel_rfl) ?_
  refine Ops.done (by kernel_rfl) ?_
  refine seqH.n ?_
  refine Ht.ret (by kernel_rfl) ?_
  exact ⟨.inr rfl, .v (.tuple [.agg [vI 0, .sl .nil [], .sl .nil []], e30 ⟨2, -2⟩]), by kernel_rfl, by kernel_rfl⟩
 have hl := of_decide_eq_false hl
 rw [if_neg hl] at h
 refine Ht.skip (by kernel_rfl) ?_
 refine seqH.n ?_
 refine Ht.seq (by kernel_rfl) ?_
 refine Ht.seq (by kernel_rfl) ?_
 refine Ht.region hxn (by kernel_rfl) ?_
 refine Ops.seg' 1 1 (by kernel_rfl) ?_
 refine Ops.one' 2 (fun h0 e0 => len_r (T := TM) h0 22 3 .plain eI al (by kernel_rfl)) (by kernel_rfl) (by kernel_rfl) ?_
 refine Ops.seg' 1 3 (by kernel_rfl) ?_
 refine Ops.done (by kernel_rfl) ?_
 refine seqH.n ?_
 refine Ht.block 0 (by kernel_rfl) ?_
 refine Ht.forget [1, 2, 4, 5, 23, 24, 25] (Ht.st (σ' := Sl R al 0) (by kernel_rfl) ?_)
 refine labels5 n m hn (by omega) (fun f hf σ hσ => ?_) (fun hf σ hσ => ?_)
 ·rw [hf] at h
  cases h
  exact ⟨.inr rfl, hσ⟩
 ·rw [hf] at h
  obtain ⟨o', hb, rfl⟩ := Option.map_eq_some_iff.1 h
  refine blkH.x ?_
  refine seqH.n ?_
  refine Ht.forget [1, 2, 4, 5] (Ht.st hσ ?_)
  exact tail5 n m hn hb fun σ hσ => ⟨.inr rfl, hσ⟩
end Go.Abs.Yl
