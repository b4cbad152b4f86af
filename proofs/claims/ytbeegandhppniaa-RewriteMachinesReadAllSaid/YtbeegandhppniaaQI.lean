import Derived.Test.YtbeegandhppniaaYL
import Derived.Test.YtbeegandhppniaaZEQ
namespace Go.Abs.Qa
open Go.Abs Go.Abs.Yb Go.Abs.Yc Go.Abs.Yf Go.Abs.Yg Go.Abs.Yi
set_option linter.unusedVariables false
set_option linter.unusedSimpArgs false
set_option linter.unnecessarySimpa false
theorem cnd_true {α : Type} (x y : Option α) : cnd true x y = x := rfl
theorem cnd_false {α : Type} (x y : Option α) : cnd false x y = y := rfl
theorem bnd_some' {α β : Type} (a : α) (f : α → Option β) : bnd (some a) f = f a := rfl
theorem brk_inr {R A B : Type} (a : A) (f : R → Option B) (g : A → Option B) : brk (some (.inr a)) f g = g a := rfl
theorem brk_inl {R A B : Type} (r : R) (f : R → Option B) (g : A → Option B) : brk (some (.inl r)) f g = f r := rfl
theorem iter_nxt {R A : Type} {b : A → Option (Stp R A)} {k : Nat} {a a' : A} (h : b a = some (.nxt a')) : iter b (k + 1) a = iter b k a' := by simp [iter, h]
theorem iter_brk {R A : Type} {b : A → Option (Stp R A)} {k : Nat} {a a' : A} (h : b a = some (.brk a')) : iter b (k + 1) a = some (.inr a') := by simp [iter, h]
theorem iter_ret {R A : Type} {b : A → Option (Stp R A)} {k : Nat} {a : A} {r : R} (h : b a = some (.ret r)) : iter b (k + 1) a = some (.inl r) := by simp [iter, h]
theorem idx_nat {α : Type} (l : List α) (j : Nat) : idx l (j : Int) = l[j]? := by simp [idx]
def bf (bk : List Int) (j : Nat) : Nat := ((bk[j]?).getD 0).toNat
inductive Chn (b : Nat → Nat) : Nat → Nat → Prop
 | refl (n : Nat) : Chn b n n
 | step {n k : Nat} : 0 < n → Chn b (b n) k → Chn b n k
theorem Chn.trans {b : Nat → Nat} {i j k : Nat} (h : Chn b i j) (g : Chn b j k) : Chn b i k := by
 induction h with
 | refl => exact g
 | step h0 _ ih => exact .step h0 (ih g)
theorem Chn.le {b : Nat → Nat} {i j : Nat} (h : Chn b i j) (hb : ∀ n, 0 < n → n ≤ i → b n < n) : j ≤ i := by
 induction h with
 | refl => exact Nat.le_refl _
 | step h0 _ ih => have := hb _ h0 (Nat.le_refl _); exact Nat.le_trans (ih fun n a c => hb n a (by omega)) (by omega)
theorem Chn.congr {b b' : Nat → Nat} {i j : Nat} (h : Chn b i j) (hb : ∀ n, 0 < n → n ≤ i → b n < n) (he : ∀ n, n ≤ i → b n = b' n) : Chn b' i j := by
 induction h with
 | refl => exact .refl _
 | step h0 _ ih =>
  have := hb _ h0 (Nat.le_refl _)
  refine .step h0 ?_
  rw [← he _ (Nat.le_refl _)]
  exact ih (fun n a c => hb n a (by omega)) (fun n c => he n (by omega))
theorem Chn.zero {b : Nat → Nat} {k : Nat} (h : Chn b 0 k) : k = 0 := by
 cases h with
 | refl => rfl
 | step h0 _ => omega
structure Bk (w bk : List Int) (N : Nat) : Prop where
 len : bk.length = w.length + 1
 nn : ∀ j, j ≤ w.length → bk[j]? = some (bf bk j : Int)
 lt : ∀ j, 0 < j → j ≤ w.length → bf bk j < j
 ch : ∀ j, j < N → ∀ k, Chn (bf bk) (j + 1) (k + 1) → Chn (bf bk) j k
 z0 : bf bk 0 = 0
theorem Bk.init (w : List Int) : Bk w (List.replicate (w.length + 1) 0) 1 := by
 have e : ∀ j, bf (List.replicate (w.length + 1) 0) j = 0 := fun j => by
  unfold bf
  rw [List.getElem?_replicate]
  split <;> rfl
 refine ⟨by simp, fun j hj => by rw [e, List.getElem?_replicate, if_pos (by omega)]; rfl, fun j h0 hj => by rw [e]; exact h0, fun j hj k h => ?_, e 0⟩
 have hj0 : j = 0 := by omega
 subst hj0
 cases h with
 | refl => exact .refl 0
 | step h0 h => rw [e] at h; have := h.zero; omega
theorem bkK_ok {w bk : List Int} {N : Nat} (hb : Bk w bk N) (c : Int) : ∀ (K s : Nat), s < K → s < w.length → ∃ k : Nat, bkK w bk c K (s : Int) = some (k : Int) ∧ Chn (bf bk) s k ∧ k < w.length ∧ (k = 0 ∨ w[k]? = some c)
 | 0, s, h, _ => by omega
 | K + 1, s, h, hs => by
  unfold bkK
  by_cases h0 : 0 < s
  ·rw [if_pos (by omega), idx_nat, List.getElem?_eq_getElem hs]
   dsimp only
   by_cases hc : w[s] = c
   ·rw [if_pos hc]
    exact ⟨s, rfl, .refl s, hs, .inr (by rw [List.getElem?_eq_getElem hs, hc])⟩
   ·rw [if_neg hc, idx_nat, hb.nn s (by omega)]
    dsimp only
    have hl := hb.lt s h0 (by omega)
    obtain ⟨k, h1, h2, h3, h4⟩ := bkK_ok hb c K (bf bk s) (by omega) (by omega)
    exact ⟨k, h1, .step h0 h2, h3, h4⟩
  ·rw [if_neg (by omega)]
   exact ⟨s, rfl, .refl s, hs, .inl (by omega)⟩
theorem bf_set {bk : List Int} {n v : Nat} (hn : n < bk.length) (j : Nat) : bf (bk.set n (v : Int)) j = if j = n then v else bf bk j := by
 unfold bf
 rw [List.getElem?_set]
 by_cases e : n = j
 ·subst e; rw [if_pos rfl, if_pos hn, if_pos rfl]; rfl
 ·rw [if_neg e, if_neg (Ne.symm e)]
theorem bk1_ok {w bk : List Int} {n : Nat} (hb : Bk w bk n) (h1 : 1 ≤ n) (hn : n + 1 ≤ w.length) (hw : w.length < 900) : ∃ bk', bk1 w (n + 1) bk = some bk' ∧ Bk w bk' (n + 1) := by
 unfold bk1
 have e1 : ((n + 1 : Nat) : Int) - 1 = (n : Int) := by omega
 rw [e1, idx_nat, idx_nat, hb.nn n (by omega), List.getElem?_eq_getElem (show n < w.length by omega)]
 dsimp only
 have hl := hb.lt n (by omega) (by omega)
 obtain ⟨k, g1, g2, g3, g4⟩ := bkK_ok hb w[n] 1000 (bf bk n) (by omega) (by omega)
 rw [g1]
 dsimp only
 rw [idx_nat, List.getElem?_eq_getElem g3]
 dsimp only
 rw [if_pos (by omega)]
 have hkn : k ≤ bf bk n := g2.le (fun j a c => hb.lt j a (by omega))
 obtain ⟨v, hv, hv2⟩ : ∃ v : Nat, (if w[k] = w[n] then (k : Int) + 1 else (k : Int)) = (v : Int) ∧ (v = k + 1 ∨ v = 0) := by
  by_cases e : w[k] = w[n]
  ·exact ⟨k + 1, by rw [if_pos e]; rfl, .inl rfl⟩
  ·refine ⟨k, by rw [if_neg e], .inr ?_⟩
   rcases g4 with g4 | g4
   ·exact g4
   ·rw [List.getElem?_eq_getElem g3] at g4; exact absurd (Option.some.inj g4) e
 rw [hv]
 have hnl : n + 1 < bk.length := by rw [hb.len]; omega
 refine ⟨bk.set (n + 1) (v : Int), by unfold upd; rw [if_pos ⟨by omega, by simp; omega⟩]; rfl, ?_⟩
 have es : ∀ j, bf (bk.set (n + 1) (v : Int)) j = if j = n + 1 then v else bf bk j := bf_set hnl
 have elt : ∀ j, 0 < j → j ≤ w.length → bf (bk.set (n + 1) (v : Int)) j < j := fun j h0 hj => by
  rw [es]; split
  ·omega
  ·exact hb.lt j h0 hj
 have agr : ∀ i j, i ≤ n → Chn (bf bk) i j → Chn (bf (bk.set (n + 1) (v : Int))) i j := fun i j hi h => h.congr (fun q a c => hb.lt q a (by omega)) (fun q c => by rw [es, if_neg (by omega)])
 have agr' : ∀ i j, i ≤ n → Chn (bf (bk.set (n + 1) (v : Int))) i j → Chn (bf bk) i j := fun i j hi h => h.congr (fun q a c => elt q a (by omega)) (fun q c => by rw [es, if_neg (by omega)])
 refine ⟨by rw [List.length_set]; exact hb.len, fun j hj => ?_, elt, fun j hj k' hk' => ?_, by rw [es, if_neg (by omega)]; exact hb.z0⟩
 ·rw [es, List.getElem?_set]
  by_cases e : n + 1 = j
  ·rw [if_pos e, if_pos hnl, if_pos e.symm]
  ·rw [if_neg e, if_neg (Ne.symm e)]; exact hb.nn j hj
 ·by_cases e : j = n
  ·subst e
   cases hk' with
   | refl => exact .refl _
   | step h0 h =>
    rw [es, if_pos rfl] at h
    rcases hv2 with rfl | rfl
    ·have h' := agr' _ _ (by omega) h
     refine agr _ _ (Nat.le_refl _) (.step (by omega) (g2.trans ?_))
     exact hb.ch k (by omega) k' h'
    ·have := h.zero; omega
  ·exact agr _ _ (by omega) (hb.ch j (by omega) k' (agr' _ _ (by omega) hk'))
theorem bkN_ok {w : List Int} (hw : w.length < 900) : ∀ (K n : Nat) (bk : List Int), 1 ≤ n → w.length + 1 - n ≤ K → n ≤ w.length → Bk w bk n → ∃ bk', bkN w (K + 1) (n + 1) bk = some bk' ∧ Bk w bk' w.length
 | 0, n, bk, h1, hK, hn, hb => by omega
 | K + 1, n, bk, h1, hK, hn, hb => by
  unfold bkN
  by_cases e : n + 1 ≤ w.length
  ·rw [if_pos e]
   obtain ⟨bk', g1, g2⟩ := bk1_ok hb h1 e hw
   rw [g1]
   exact bkN_ok hw K (n + 1) bk' (by omega) (by omega) e g2
  ·rw [if_neg e]
   have : n = w.length := by omega
   subst this
   exact ⟨bk, rfl, hb⟩
end Go.Abs.Qa
namespace Go.Abs.Qb
open Go.Abs Go.Abs.Qa Go.Abs.Yb Go.Abs.Yc Go.Abs.Yf Go.Abs.Yg Go.Abs.Yi
set_option linter.unusedVariables false
structure BOk (b : S45) : Prop where
 bk : Bk b.fWhole b.fBack b.fWhole.length
 len : b.fWhole.length = b.fR.fLeft.length + b.fR.fFrom.length + b.fR.fRight.length
 f1 : 1 ≤ b.fR.fFrom.length
 l9 : b.fWhole.length ≤ 9
structure POk (b : S45) (p : S75) : Prop where
 ex : ∃ fit since : Nat, p = ⟨(fit : Int), (since : Int)⟩ ∧ fit ≤ b.fWhole.length ∧ since ≤ b.fWhole.length
def Cand (b : S45) (since k : Nat) : Prop := b.fR.fLeft.length < k ∧ k - b.fR.fLeft.length ≤ since ∧ k < b.fWhole.length
theorem w64_sub {a b : Nat} (ha : a ≤ 100) (hb : b ≤ 100) : w64 ((a : Int) - (b : Int)) = (a : Int) - b := w64_id ⟨by omega, by omega⟩
theorem wait_loop (m0 : Nat) {b : S45} (hb : BOk b) (fit0 since : Nat) (x0 : Int) : ∀ (K k : Nat), k < K → k ≤ b.fWhole.length →
  (∃ n, iter (fun (y : Int) => f32_B2 m0 b ⟨x0, (since : Int)⟩ y) K (k : Int) = some (.inl ((n - b.fR.fLeft.length : Nat) : Int)) ∧ Chn (bf b.fBack) k n ∧ Cand b since n ∧ ∀ k', Chn (bf b.fBack) k k' → Cand b since k' → k' ≤ n) ∨
  (∃ z, iter (fun (y : Int) => f32_B2 m0 b ⟨x0, (since : Int)⟩ y) K (k : Int) = some (.inr z) ∧ ∀ k', Chn (bf b.fBack) k k' → ¬ Cand b since k')
 | 0, k, h, _ => by omega
 | K + 1, k, h, hk => by
  have hl := hb.len
  have h9 := hb.l9
  by_cases h1 : b.fR.fLeft.length < k
  ·by_cases hc : Cand b since k
   ·left
    refine ⟨k, ?_, .refl k, hc, fun k' hk' _ => hk'.le (fun j a c => hb.bk.lt j a (by omega))⟩
    refine iter_ret ?_
    unfold f32_B2 f32_r1
    rw [decide_eq_true (show (k : Int) > (b.fR.fLeft.length : Int) by omega), cnd_true, w64_sub (by omega) (by omega), decide_eq_true (show (k : Int) - (b.fR.fLeft.length : Int) ≤ (since : Int) by have := hc.2.1; omega), decide_eq_true (show (k : Int) < (b.fWhole.length : Int) by have := hc.2.2; omega)]
    show some _ = some _
    congr 2
    omega
   ·have hn : iter (fun (y : Int) => f32_B2 m0 b ⟨x0, (since : Int)⟩ y) (K + 1) (k : Int) = iter (fun (y : Int) => f32_B2 m0 b ⟨x0, (since : Int)⟩ y) K ((bf b.fBack k : Nat) : Int) := by
     refine iter_nxt ?_
     unfold f32_B2 f32_r1
     rw [decide_eq_true (show (k : Int) > (b.fR.fLeft.length : Int) by omega), cnd_true, w64_sub (by omega) (by omega)]
     have : ((decide ((k : Int) - (b.fR.fLeft.length : Int) ≤ (since : Int))) && (decide ((k : Int) < (b.fWhole.length : Int)))) = false := by
      rw [Bool.and_eq_false_iff, decide_eq_false_iff_not, decide_eq_false_iff_not]
      by_cases e : (k : Int) - (b.fR.fLeft.length : Int) ≤ (since : Int)
      ·right; intro e2; exact hc ⟨h1, by omega, by omega⟩
      ·left; exact e
     rw [this, cnd_false, idx_nat, hb.bk.nn k hk, bnd_some']
    have hlt := hb.bk.lt k (by omega) hk
    have hst : ∀ k', Chn (bf b.fBack) k k' → Cand b since k' → Chn (bf b.fBack) (bf b.fBack k) k' := fun k' h c => by
     cases h with
     | refl => exact absurd c hc
     | step _ h => exact h
    rw [hn]
    rcases wait_loop m0 hb fit0 since x0 K (bf b.fBack k) (by omega) (by omega) with ⟨n, e, c1, c2, c3⟩ | ⟨z, e, c⟩
    ·exact .inl ⟨n, e, .step (by omega) c1, c2, fun k' h c => c3 k' (hst k' h c) c⟩
    ·exact .inr ⟨z, e, fun k' h c' => c k' (hst k' h c') c'⟩
  ·right
   refine ⟨(k : Int), iter_brk ?_, fun k' h c => ?_⟩
   ·unfold f32_B2
    rw [decide_eq_false (show ¬ ((k : Int) > (b.fR.fLeft.length : Int)) by omega), cnd_false]
   ·have := h.le (fun j a c => hb.bk.lt j a (by omega))
    have := c.1
    omega
theorem f32_ok (m : Nat) (hm : 20 ≤ m) {b : S45} (hb : BOk b) {fit since : Nat} (hf : fit ≤ b.fWhole.length) :
  ∃ n : Nat, f32 m b ⟨(fit : Int), (since : Int)⟩ = some (n : Int) ∧ n ≤ since ∧ n ≤ fit ∧ n ≤ b.fWhole.length ∧ (n = 0 ∨ ∃ k, Chn (bf b.fBack) fit k ∧ Cand b since k ∧ n = k - b.fR.fLeft.length) ∧ ∀ k', Chn (bf b.fBack) fit k' → Cand b since k' → k' - b.fR.fLeft.length ≤ n := by
 have h9 := hb.l9
 unfold f32
 rcases wait_loop m hb 0 since (fit : Int) m fit (by omega) hf with ⟨n, e, c1, c2, c3⟩ | ⟨z, e, c⟩
 ·have hle := c1.le (fun j a c => hb.bk.lt j a (by omega))
  refine ⟨n - b.fR.fLeft.length, ?_, c2.2.1, by omega, by omega, .inr ⟨n, c1, c2, rfl⟩, fun k' h c => by have := c3 k' h c; omega⟩
  show brk (iter (fun (y : Int) => f32_B2 m b ⟨(fit : Int), (since : Int)⟩ y) m (fit : Int)) _ _ = _
  rw [e]; rfl
 ·refine ⟨0, ?_, by omega, by omega, by omega, .inl rfl, fun k' h c' => absurd c' (c k' h)⟩
  show brk (iter (fun (y : Int) => f32_B2 m b ⟨(fit : Int), (since : Int)⟩ y) m (fit : Int)) _ _ = _
  rw [e]; rfl
theorem longer_loop (m0 : Nat) {b : S45} (hb : BOk b) (c : Int) : ∀ (K s : Nat), s < K → s < b.fWhole.length → ∃ k : Nat, iter (fun (y : Int) => f52_B2 m0 b c y) K (s : Int) = some (.inr (k : Int)) ∧ Chn (bf b.fBack) s k ∧ k < b.fWhole.length ∧ (k = 0 ∨ b.fWhole[k]? = some c)
 | 0, s, h, _ => by omega
 | K + 1, s, h, hs => by
  by_cases h0 : 0 < s
  ·by_cases hc : b.fWhole[s] = c
   ·refine ⟨s, iter_brk ?_, .refl s, hs, .inr (by rw [List.getElem?_eq_getElem hs, hc])⟩
    unfold f52_B2 f52_r1
    rw [decide_eq_true (show (s : Int) > 0 by omega), cnd_true, idx_nat, List.getElem?_eq_getElem hs, bnd_some', bnd_some']
    rw [show (b.fWhole[s] != c) = false by simp [hc]]
    rfl
   ·have hlt := hb.bk.lt s h0 (by omega)
    obtain ⟨k, h1, h2, h3, h4⟩ := longer_loop m0 hb c K (bf b.fBack s) (by omega) (by omega)
    refine ⟨k, ?_, .step h0 h2, h3, h4⟩
    rw [← h1]
    refine iter_nxt ?_
    unfold f52_B2 f52_r1
    rw [decide_eq_true (show (s : Int) > 0 by omega), cnd_true, idx_nat, List.getElem?_eq_getElem hs, bnd_some', bnd_some']
    rw [show (b.fWhole[s] != c) = true by simp [hc], cnd_true, idx_nat, hb.bk.nn s (by omega), bnd_some']
  ·refine ⟨s, iter_brk ?_, .refl s, hs, .inl (by omega)⟩
   unfold f52_B2 f52_r1
   rw [decide_eq_false (show ¬ ((s : Int) > 0) by omega), cnd_false, bnd_some', cnd_false]
theorem f52_ok (m : Nat) (hm : 20 ≤ m) {b : S45} (hb : BOk b) {fit : Nat} (hf : fit ≤ b.fWhole.length) (c : Int) :
  ∃ q : Nat, f52 m b (fit : Int) c = some (q : Int) ∧ q ≤ b.fWhole.length ∧ (q = 0 ∨ ∃ k, Chn (bf b.fBack) fit k ∧ q = k + 1 ∧ b.fWhole[k]? = some c) := by
 have h9 := hb.l9
 have hl := hb.len
 have h1 := hb.f1
 have tail : ∀ s, s < b.fWhole.length → Chn (bf b.fBack) fit s → ∃ q : Nat, f52_j4 m b c (s : Int) = some (q : Int) ∧ q ≤ b.fWhole.length ∧ (q = 0 ∨ ∃ k, Chn (bf b.fBack) fit k ∧ q = k + 1 ∧ b.fWhole[k]? = some c) := fun s hs hch => by
  obtain ⟨k, g1, g2, g3, g4⟩ := longer_loop m hb c m s (by omega) hs
  unfold f52_j4
  rw [g1, brk_inr, idx_nat, List.getElem?_eq_getElem g3, bnd_some']
  by_cases e : b.fWhole[k] = c
  ·rw [show (b.fWhole[k] == c) = true by simp [e], cnd_true]
   refine ⟨k + 1, ?_, by omega, .inr ⟨k, hch.trans g2, rfl, by rw [List.getElem?_eq_getElem g3, e]⟩⟩
   show some (w64 ((k : Int) + 1)) = _
   rw [w64_id ⟨by omega, by omega⟩]; rfl
  ·rw [show (b.fWhole[k] == c) = false by simp [e], cnd_false]
   rcases g4 with g4 | g4
   ·exact ⟨k, rfl, by omega, .inl g4⟩
   ·rw [List.getElem?_eq_getElem g3] at g4; exact absurd (Option.some.inj g4) e
 unfold f52
 by_cases e : fit = b.fWhole.length
 ·rw [show ((fit : Int) == (b.fWhole.length : Int)) = true by simp [e], cnd_true, idx_nat, hb.bk.nn fit hf, bnd_some']
  have hlt := hb.bk.lt fit (by omega) hf
  exact tail _ (by omega) (.step (by omega) (.refl _))
 ·rw [show ((fit : Int) == (b.fWhole.length : Int)) = false by simp; omega, cnd_false]
  exact tail _ (by omega) (.refl _)
theorem f31_ok (m : Nat) {b : S45} (hb : BOk b) {fit n : Nat} {s : Int} (hf : fit ≤ b.fWhole.length) (hn : n ≤ fit) : f31 m b ⟨(fit : Int), s⟩ (n : Int) = some ((b.fWhole.drop (fit - n)).take n) := by
 have h9 := hb.l9
 unfold f31
 show bnd (sub b.fWhole (w64 ((fit : Int) - (n : Int))) (fit : Int)) _ = _
 rw [w64_sub (by omega) (by omega)]
 unfold sub
 rw [if_pos ⟨by omega, by omega, by omega⟩, bnd_some']
 rw [show ((fit : Int) - (n : Int)).toNat = fit - n by omega, show ((fit : Int)).toNat - (fit - n) = n by omega]
end Go.Abs.Qb
namespace Go.Abs.Qc
open Go.Abs Go.Abs.Qa Go.Abs.Qb Go.Abs.Yb Go.Abs.Yc Go.Abs.Yf Go.Abs.Yg Go.Abs.Yi
set_option linter.unusedVariables false
theorem app8 {α : Type} (xs ys : List α) (h : xs.length + ys.length ≤ 1000000) : app 8 xs ys = some (xs ++ ys) := by
 unfold app
 rw [if_pos ⟨by omega, by unfold maxLen; omega⟩]
theorem sub_nat {α : Type} (l : List α) (lo hi : Nat) (h1 : lo ≤ hi) (h2 : hi ≤ l.length) : sub l (lo : Int) (hi : Int) = some ((l.drop lo).take (hi - lo)) := by
 unfold sub
 rw [if_pos ⟨by omega, by omega, by omega⟩]
 simp
def sinceN (b : S45) (q s : Nat) : Nat := if q - b.fR.fLeft.length < s then q - b.fR.fLeft.length else s
theorem sinceI (b : S45) (h : b.fR.fLeft.length ≤ 100) {q s : Nat} (hq : q ≤ 100) : (if (if w64 ((q : Int) - (b.fR.fLeft.length : Int)) > 0 then w64 ((q : Int) - (b.fR.fLeft.length : Int)) else 0) < (s : Int) then (if w64 ((q : Int) - (b.fR.fLeft.length : Int)) > 0 then w64 ((q : Int) - (b.fR.fLeft.length : Int)) else 0) else (s : Int)) = ((sinceN b q s : Nat) : Int) := by
 rw [w64_sub hq h]
 unfold sinceN
 by_cases e1 : (q : Int) - (b.fR.fLeft.length : Int) > 0
 ·rw [if_pos e1]; split <;> split <;> omega
 ·rw [if_neg e1]; split <;> split <;> omega
theorem f39_ok (m : Nat) (hm : 20 ≤ m) {b : S45} (hb : BOk b) (hR : b.fR.fTo.length ≤ 3) {p : S75} (hp : POk b p) (x : Int) :
  ∃ q out, f39 m b p x = some (q, out) ∧ POk b q ∧ out.length ≤ 20 ∧ ∀ y ∈ out, y = x ∨ y ∈ b.fR.fTo ∨ y ∈ b.fWhole := by
 obtain ⟨fit, since, rfl, hf, hs⟩ := hp.ex
 have h9 := hb.l9
 have hl := hb.len
 have h1 := hb.f1
 obtain ⟨n, e1, n1, n2, n3, n4, n5⟩ := f32_ok m hm hb (since := since) hf
 obtain ⟨q, e2, q1, q2⟩ := f52_ok m hm hb hf x
 unfold f39
 rw [e1, bnd_some', f31_ok m hb hf n2, bnd_some']
 obtain ⟨tl, htl⟩ : ∃ tl, (b.fWhole.drop (fit - n)).take n = tl := ⟨_, rfl⟩
 have htll : tl.length = n := by rw [← htl, List.length_take, List.length_drop]; omega
 have htlm : ∀ y ∈ tl, y ∈ b.fWhole := fun y hy => by rw [← htl] at hy; exact List.mem_of_mem_drop (List.mem_of_mem_take hy)
 rw [htl]
 rw [show cln 8 tl.length = some () from by unfold cln; rw [if_pos ⟨by omega, by unfold maxLen; omega⟩], bnd_some', app8 _ _ (by simp; omega), bnd_some']
 dsimp only
 rw [e2, bnd_some']
 have hhl : (tl ++ [x]).length = n + 1 := by simp [htll]
 have hhm : ∀ y ∈ tl ++ [x], y = x ∨ y ∈ b.fR.fTo ∨ y ∈ b.fWhole := fun y hy => by
  rcases List.mem_append.mp hy with h | h
  ·exact .inr (.inr (htlm y h))
  ·exact .inl (by simpa using h)
 have joint : ∀ (held out0 : List Int) (s : Nat), s ≤ 20 → held.length ≤ 12 → out0.length ≤ 3 → (∀ y ∈ held, y = x ∨ y ∈ b.fR.fTo ∨ y ∈ b.fWhole) → (∀ y ∈ out0, y = x ∨ y ∈ b.fR.fTo ∨ y ∈ b.fWhole) →
   (∀ n', n' ≤ sinceN b q s → (n' = 0 ∨ ∃ k, Chn (bf b.fBack) q k ∧ Cand b (sinceN b q s) k ∧ n' = k - b.fR.fLeft.length) → n' ≤ held.length) →
   ∃ q' out, f39_j1 m b (q : Int) held out0 (s : Int) = some (q', out) ∧ POk b q' ∧ out.length ≤ 20 ∧ ∀ y ∈ out, y = x ∨ y ∈ b.fR.fTo ∨ y ∈ b.fWhole := fun held out0 s hs20 hh ho hm1 hm2 hk => by
  unfold f39_j1
  rw [sinceI b (by omega) (by omega)]
  have hsn : sinceN b q s ≤ b.fWhole.length := by unfold sinceN; split <;> omega
  obtain ⟨n', e3, a1, a2, a3, a4, a5⟩ := f32_ok m hm hb (since := sinceN b q s) q1
  rw [e3, bnd_some']
  have hn' := hk n' a1 a4
  rw [show w64 ((held.length : Int) - (n' : Int)) = ((held.length - n' : Nat) : Int) by rw [w64_sub (by omega) (by omega)]; omega]
  have := sub_nat held 0 (held.length - n') (by omega) (by omega)
  rw [show ((0 : Nat) : Int) = 0 from rfl] at this
  rw [this, bnd_some', List.drop_zero, app8 _ _ (by rw [List.length_take]; omega), bnd_some']
  refine ⟨_, _, rfl, ⟨q, sinceN b q s, rfl, q1, hsn⟩, by rw [List.length_append, List.length_take]; omega, fun y hy => ?_⟩
  rcases List.mem_append.mp hy with h | h
  ·exact hm2 y h
  ·exact hm1 y (List.mem_of_mem_take h)
 have hws : w64 ((since : Int) + 1) = ((since + 1 : Nat) : Int) := by rw [w64_id ⟨by omega, by omega⟩]; omega
 unfold f39_r2
 show ∃ q_1 out, cnd (((q : Int) == (b.fWhole.length : Int)) && (decide (w64 ((b.fWhole.length : Int) - (b.fR.fLeft.length : Int)) ≤ w64 ((since : Int) + 1)))) _ (f39_j1 m b (q : Int) (tl ++ [x]) [] (w64 ((since : Int) + 1))) = some (q_1, out) ∧ _
 rw [hws, w64_sub (by omega) (by omega)]
 by_cases hc : (((q : Int) == (b.fWhole.length : Int)) && (decide ((b.fWhole.length : Int) - (b.fR.fLeft.length : Int) ≤ ((since + 1 : Nat) : Int)))) = true
 ·rw [hc, cnd_true]
  rw [Bool.and_eq_true, beq_iff_eq, decide_eq_true_eq] at hc
  obtain ⟨hc1, hc2⟩ := hc
  rw [app8 _ _ (by simp; omega), bnd_some', List.nil_append]
  -- enough are held
  have hen : b.fR.fRight.length ≤ n + 1 := by
   rcases q2 with q2 | ⟨k, c1, c2, c3⟩
   ·omega
   ·by_cases hk : b.fR.fLeft.length < k
    ·have := n5 k c1 ⟨hk, by omega, by omega⟩
     omega
    ·omega
  rw [show w64 (((tl ++ [x]).length : Int) - (b.fR.fRight.length : Int)) = (((tl ++ [x]).length - b.fR.fRight.length : Nat) : Int) by rw [w64_sub (by omega) (by omega)]; omega]
  rw [sub_nat _ _ _ (by omega) (Nat.le_refl _), bnd_some']
  refine joint _ _ b.fR.fRight.length (by omega) (by rw [List.length_take, List.length_drop]; omega) hR (fun y hy => hhm y (List.mem_of_mem_drop (List.mem_of_mem_take hy))) (fun y hy => .inr (.inl hy)) fun n' a b' => ?_
  rw [List.length_take, List.length_drop, hhl]
  have : n' ≤ b.fR.fRight.length := Nat.le_trans a (by unfold sinceN; split <;> omega)
  omega
 ·rw [Bool.not_eq_true] at hc
  rw [hc, cnd_false]
  refine joint _ _ (since + 1) (by omega) (by omega) (by simp) hhm (fun y hy => by cases hy) fun n' a b' => ?_
  rw [hhl]
  rcases b' with b' | ⟨k', c1, c2, c3⟩
  ·omega
  ·obtain ⟨d1, d2, d3⟩ := c2
   have hss : sinceN b q (since + 1) ≤ since + 1 := by unfold sinceN; split <;> omega
   rcases q2 with q2 | ⟨k, g1, g2, g3⟩
   ·subst q2; have := c1.zero; omega
   ·subst g2
    obtain ⟨k2, rfl⟩ : ∃ k2, k' = k2 + 1 := ⟨k' - 1, by omega⟩
    have hch := hb.bk.ch k (by omega) k2 c1
    by_cases hk : b.fR.fLeft.length < k2
    ·have := n5 k2 (g1.trans hch) ⟨hk, by omega, by omega⟩
     omega
    ·omega
theorem POk0 (b : S45) : POk b ⟨0, 0⟩ := ⟨0, 0, rfl, by omega, by omega⟩
theorem POk_card {b : S45} (hb : BOk b) {L : List S75} (h : ∀ p ∈ L, POk b p) (hn : L.Nodup) : L.length ≤ 100 := by
 have h9 := hb.l9
 let U : List S75 := (List.range 10).flatMap fun (i : Nat) => (List.range 10).map fun (j : Nat) => (⟨(i : Int), (j : Int)⟩ : S75)
 have hU : U.length = 100 := by decide
 have hs : L ⊆ U := fun p hp => by
  obtain ⟨fit, since, rfl, hf, hs⟩ := (h p hp).ex
  simp only [U, List.mem_flatMap, List.mem_map, List.mem_range]
  exact ⟨fit, by omega, since, by omega, rfl⟩
 rw [← hU]
 exact hn.length_le_of_subset hs
end Go.Abs.Qc
namespace Go.Abs.Qd
open Go.Abs Go.Abs.Qa Go.Abs.Qb Go.Abs.Qc Go.Abs.Yb Go.Abs.Yc Go.Abs.Yf Go.Abs.Yg Go.Abs.Yi
set_option linter.unusedVariables false
theorem adj_nodup {L : List S75} (h : L.Nodup) (q : S75) : (adj L q).Nodup := by
 unfold adj
 split
 ·exact h
 ·rename_i hq
  exact List.nodup_append.mpr ⟨h, by simp, fun a ha b hb => by simp at hb; subst hb; intro e; subst e; exact hq ha⟩
theorem adj_mem (L : List S75) (q : S75) : q ∈ adj L q := by
 unfold adj
 split
 ·rename_i h; exact h
 ·simp
theorem adj_all {P : S75 → Prop} {L : List S75} (h : ∀ p ∈ L, P p) {q : S75} (hq : P q) : ∀ p ∈ adj L q, P p := by
 unfold adj
 split
 ·exact h
 ·intro p hp
  rcases List.mem_append.mp hp with g | g
  ·exact h p g
  ·simp at g; subst g; exact hq
theorem adj_pre (L : List S75) (q : S75) : L <+: adj L q := by
 unfold adj
 split
 ·exact List.prefix_refl _
 ·exact List.prefix_append _ _
structure MOk (b : S45) (al : List Int) (N : Nat) (v : S79) : Prop where
 fr : ∃ i : Nat, v.fFrom = (i : Int) ∧ i < N
 to : ∃ j : Nat, v.fTo = (j : Int) ∧ j < N
 lb : v.fLabel ∈ al
 ol : v.fOut.length ≤ 20
 om : ∀ y ∈ v.fOut, y ∈ al ∨ y ∈ b.fR.fTo ∨ y ∈ b.fWhole
theorem MOk.mono {b : S45} {al : List Int} {N N' : Nat} {v : S79} (h : MOk b al N v) (hN : N ≤ N') : MOk b al N' v :=
 ⟨by obtain ⟨i, e, g⟩ := h.fr; exact ⟨i, e, by omega⟩, by obtain ⟨i, e, g⟩ := h.to; exact ⟨i, e, by omega⟩, h.lb, h.ol, h.om⟩
def keyM (v : S79) : Int × Int := (v.fFrom, v.fLabel)
theorem sumc (c n : Nat) : ((List.range n).map fun _ => c).sum = n * c := by
 induction n with
 | zero => simp
 | succ n ih => rw [List.range_succ, List.map_append, List.sum_append, ih, Nat.succ_mul]; simp
theorem plIn_ok (m : Nat) (hm : 20 ≤ m) {b : S45} (hb : BOk b) (hR : b.fR.fTo.length ≤ 3) {p : S75} (hp : POk b p) {i : Nat} (al : List Int) : ∀ (r : List Int) (L : List S75) (M : List S79), (∀ x ∈ r, x ∈ al) → (∀ q ∈ L, POk b q) → L.Nodup → i < L.length → M.length + r.length < 1000000 → (∀ v ∈ M, MOk b al L.length v) →
  ∃ L' N, plIn m b p (i : Int) r L M = some (L', M ++ N) ∧ L <+: L' ∧ (∀ q ∈ L', POk b q) ∧ L'.Nodup ∧ N.map keyM = r.map (fun x => ((i : Int), x)) ∧ ∀ v ∈ M ++ N, MOk b al L'.length v
 | [], L, M, hr, hL, hn, hi, hM, hv => ⟨L, [], by simp [plIn], List.prefix_refl _, hL, hn, rfl, by simpa using hv⟩
 | x :: r, L, M, hr, hL, hn, hi, hM, hv => by
  obtain ⟨q, out, e1, e2, e3, e4⟩ := f39_ok m hm hb hR hp x
  have hl100 := POk_card hb hL hn
  simp only [List.length_cons] at hM
  have hx := hr x (List.mem_cons_self ..)
  have hpre := adj_pre L q
  have hj : (adj L q).idxOf q < (adj L q).length := List.idxOf_lt_length_of_mem (adj_mem L q)
  obtain ⟨L', N, g1, g2, g3, g4, g5, g6⟩ := plIn_ok m hm hb hR hp (i := i) al r (adj L q) (M ++ [⟨i, x, ((adj L q).idxOf q : Nat), out⟩]) (fun y hy => hr y (List.mem_cons_of_mem _ hy)) (adj_all hL e2) (adj_nodup hn q) (Nat.lt_of_lt_of_le hi hpre.length_le) (by rw [List.length_append]; simp only [List.length_cons, List.length_nil]; omega) (fun v hv' => by
   rcases List.mem_append.mp hv' with h | h
   ·exact (hv v h).mono hpre.length_le
   ·simp only [List.mem_singleton] at h
    subst h
    exact ⟨⟨i, rfl, Nat.lt_of_lt_of_le hi hpre.length_le⟩, ⟨_, rfl, hj⟩, hx, e3, fun y hy => by
     rcases e4 y hy with rfl | h | h
     ·exact .inl hx
     ·exact .inr (.inl h)
     ·exact .inr (.inr h)⟩)
  refine ⟨L', ⟨i, x, ((adj L q).idxOf q : Nat), out⟩ :: N, ?_, hpre.trans g2, g3, g4, ?_, ?_⟩
  ·unfold plIn
   rw [e1]
   dsimp only
   rw [if_pos ⟨by omega, by omega⟩, g1, List.append_assoc]
   rfl
  ·rw [List.map_cons, List.map_cons, g5]; rfl
  ·intro v hv'
   refine g6 v ?_
   rw [List.append_assoc]
   exact hv'
theorem plOut_ok (m : Nat) (hm : 20 ≤ m) {b : S45} (hb : BOk b) (hR : b.fR.fTo.length ≤ 3) {al : List Int} (hal : al.length ≤ 1000) : ∀ (K i : Nat) (L : List S75) (M : List S79), 100 < i + K → i ≤ L.length → L ≠ [] → (∀ q ∈ L, POk b q) → L.Nodup → M.map keyM = (List.range i).flatMap (fun (j : Nat) => al.map fun x => ((j : Int), x)) → (∀ v ∈ M, MOk b al L.length v) →
  ∃ L' M', plOut m b al K i L M = some (L', M') ∧ L <+: L' ∧ (∀ q ∈ L', POk b q) ∧ L'.Nodup ∧ M'.map keyM = (List.range L'.length).flatMap (fun (j : Nat) => al.map fun x => ((j : Int), x)) ∧ ∀ v ∈ M', MOk b al L'.length v
 | 0, i, L, M, hK, hi, h0, hL, hn, hk, hv => by have := POk_card hb hL hn; omega
 | K + 1, i, L, M, hK, hi, h0, hL, hn, hk, hv => by
  have hl100 := POk_card hb hL hn
  have hml : M.length = i * al.length := by
   have := congrArg List.length hk
   rw [List.length_map] at this
   rw [this, List.length_flatMap]
   simp only [List.length_map]
   exact sumc _ _
  unfold plOut
  by_cases e : i < L.length
  ·rw [List.getElem?_eq_getElem e]
   dsimp only
   have hil : i * al.length ≤ 100 * 1000 := Nat.mul_le_mul (by omega) hal
   obtain ⟨L', N, g1, g2, g3, g4, g5, g6⟩ := plIn_ok m hm hb hR (hL _ (List.getElem_mem e)) (i := i) al al L M (fun _ h => h) hL hn e (by omega) hv
   rw [g1]
   dsimp only
   obtain ⟨L2, M2, k1, k2, k3, k4, k5, k6⟩ := plOut_ok m hm hb hR hal K (i + 1) L' (M ++ N) (by omega) (Nat.lt_of_lt_of_le e g2.length_le) (fun h => by subst h; exact h0 (List.prefix_nil.mp g2)) g3 g4 (by
    rw [List.map_append, hk, g5, List.range_succ, List.flatMap_append]
    simp) g6
   exact ⟨L2, M2, k1, g2.trans k2, k3, k4, k5, k6⟩
  ·rw [List.getElem?_eq_none (by omega)]
   have : i = L.length := by omega
   subst this
   exact ⟨L, M, rfl, List.prefix_refl _, hL, hn, hk, hv⟩
structure PlOk (b : S45) (al : List Int) (L : List S75) (M : List S79) : Prop where
 ne : 0 < L.length
 pok : ∀ q ∈ L, POk b q
 l100 : L.length ≤ 100
 key : M.map keyM = (List.range L.length).flatMap (fun (j : Nat) => al.map fun x => ((j : Int), x))
 mok : ∀ v ∈ M, MOk b al L.length v
theorem f16_ok (m : Nat) (hm : 20 ≤ m) {b : S45} (hb : BOk b) (hR : b.fR.fTo.length ≤ 3) {al : List Int} (hal : al.length ≤ 1000) : ∃ L M, f16 m b al = some (L, M) ∧ PlOk b al L M := by
 unfold f16
 rw [if_pos (by omega)]
 obtain ⟨L, M, g1, g2, g3, g4, g5, g6⟩ := plOut_ok m hm hb hR hal 1000000 0 [⟨0, 0⟩] [] (by omega) (by simp) (by simp) (fun q hq => by simp at hq; subst hq; exact POk0 b) (by simp) rfl (fun v hv => by cases hv)
 refine ⟨L, M, g1, ?_, g3, POk_card hb g3 g4, g5, g6⟩
 have := g2.length_le
 simp at this
 omega
theorem PlOk.len {b : S45} {al : List Int} {L : List S75} {M : List S79} (h : PlOk b al L M) : M.length = L.length * al.length := by
 have := congrArg List.length h.key
 rw [List.length_map] at this
 rw [this, List.length_flatMap]
 simp only [List.length_map]
 exact sumc _ _
theorem PlOk.reads {b : S45} {al : List Int} {L : List S75} {M : List S79} (h : PlOk b al L M) {i : Nat} (hi : i < L.length) {x : Int} (hx : x ∈ al) : ∃ v ∈ M, v.fFrom = (i : Int) ∧ v.fLabel = x := by
 have : ((i : Int), x) ∈ M.map keyM := by
  rw [h.key, List.mem_flatMap]
  exact ⟨i, List.mem_range.mpr hi, List.mem_map.mpr ⟨x, hx, rfl⟩⟩
 obtain ⟨v, hv, e⟩ := List.mem_map.mp this
 exact ⟨v, hv, congrArg Prod.fst e, congrArg Prod.snd e⟩
theorem PlOk.nodup {b : S45} {al : List Int} {L : List S75} {M : List S79} (h : PlOk b al L M) (hal : al.Nodup) : (M.map keyM).Nodup := by
 rw [h.key]
 unfold List.Nodup
 rw [List.pairwise_flatMap]
 refine ⟨fun j _ => ?_, ?_⟩
 ·refine List.Pairwise.map _ ?_ hal
  intro x y hne e
  exact hne (congrArg Prod.snd e)
 ·refine List.Pairwise.imp ?_ List.nodup_range
  intro i j hij a h1 c h2 e
  obtain ⟨x, _, rfl⟩ := List.mem_map.mp h1
  obtain ⟨y, _, rfl⟩ := List.mem_map.mp h2
  have := congrArg Prod.fst e
  dsimp only at this
  omega
end Go.Abs.Qd
namespace Go.Abs.Qe
open Go.Abs Go.Abs.Qa Go.Abs.Qb Go.Abs.Qc Go.Abs.Qd Go.Abs.Yb Go.Abs.Yc Go.Abs.Yf Go.Abs.Yg Go.Abs.Yi
set_option linter.unusedVariables false
abbrev frQ (a : S53) : Nat := a.fFrom.toNat
abbrev toQ (a : S53) : Nat := a.fTo.toNat
abbrev lbQ (a : S53) : Int := a.fIn
abbrev PQ (A : List S53) (s : Nat) (w : List Int) (t : Nat) : Prop := Pth frQ toQ lbQ A s w t
theorem PQ.mono {A B : List S53} (hs : ∀ a ∈ A, a ∈ B) {s t : Nat} {w : List Int} (h : PQ A s w t) : PQ B s w t := by
 induction h with
 | nil s => exact .nil s
 | eps ha he _ ih => exact .eps (hs _ ha) he ih
 | lab ha he h0 _ ih => exact .lab (hs _ ha) he h0 ih
def keyA (a : S53) : Int × Int := (a.fFrom, a.fIn)
def lw (x : Int) : List Int := if x = 0 then [] else [x]
theorem PQ.arc {A : List S53} {a : S53} (ha : a ∈ A) {f t : Nat} (hf : a.fFrom = (f : Int)) (ht : a.fTo = (t : Int)) {w : List Int} {u : Nat} (h : PQ A t w u) : PQ A f (lw a.fIn ++ w) u := by
 have e1 : frQ a = f := by show a.fFrom.toNat = f; rw [hf]; rfl
 have e2 : toQ a = t := by show a.fTo.toNat = t; rw [ht]; rfl
 unfold lw
 split
 ·rename_i h0
  rw [List.nil_append, ← e1]
  rw [← e2] at h
  exact .eps ha h0 h
 ·rename_i h0
  rw [← e1]
  rw [← e2] at h
  exact .lab ha rfl h0 h
def len1 (out : List Int) : Nat := out.length - 1
theorem chS_eq : ∀ (out : List Int) (S : Nat), chS out (S : Int) = ((S + len1 out : Nat) : Int)
 | [], S => rfl
 | [o], S => rfl
 | o :: o2 :: out, S => by
  have := chS_eq (o2 :: out) (S + 1)
  show chS (o2 :: out) ((S : Int) + 1) = _
  rw [show ((S : Int) + 1) = ((S + 1 : Nat) : Int) from rfl, this]
  simp [len1]
  omega
theorem chA_key : ∀ (out : List Int) (to fr lb : Int) (S : Nat), (chA to out (S : Int) fr lb).map keyA = (fr, lb) :: (List.range' S (len1 out)).map fun (j : Nat) => ((j : Int), (0 : Int))
 | [], to, fr, lb, S => rfl
 | [o], to, fr, lb, S => rfl
 | o :: o2 :: out, to, fr, lb, S => by
  have := chA_key (o2 :: out) to (S : Int) 0 (S + 1)
  show (fr, lb) :: (chA to (o2 :: out) ((S : Int) + 1) S 0).map keyA = _
  rw [show ((S : Int) + 1) = ((S + 1 : Nat) : Int) from rfl, this]
  simp [len1, List.range'_succ]
theorem chA_len : ∀ (out : List Int) (to fr lb st : Int), (chA to out st fr lb).length ≤ out.length + 1
 | [], to, fr, lb, st => Nat.le_refl _
 | [o], to, fr, lb, st => by show 1 ≤ 2; omega
 | o :: o2 :: out, to, fr, lb, st => by
  have := chA_len (o2 :: out) to st 0 (st + 1)
  show (chA to (o2 :: out) (st + 1) st 0).length + 1 ≤ _
  simp at this ⊢
  omega
structure AOk (S : Nat) (al ol : List Int) (a : S53) : Prop where
 fr : ∃ f : Nat, a.fFrom = (f : Int) ∧ f < S
 to : ∃ t : Nat, a.fTo = (t : Int) ∧ t < S
 i : a.fIn = 0 ∨ a.fIn ∈ al
 o : a.fOut = 0 ∨ a.fOut ∈ ol
 w : a.fWeight = 0
theorem AOk.mono {S S' : Nat} {al ol : List Int} {a : S53} (h : AOk S al ol a) (hs : S ≤ S') : AOk S' al ol a :=
 ⟨by obtain ⟨f, e, g⟩ := h.fr; exact ⟨f, e, by omega⟩, by obtain ⟨f, e, g⟩ := h.to; exact ⟨f, e, by omega⟩, h.i, h.o, h.w⟩
theorem chA_ok (al ol : List Int) : ∀ (out : List Int) (t f : Nat) (lb : Int) (S : Nat), (∀ y ∈ out, y ∈ ol) → (lb = 0 ∨ lb ∈ al) → t < S → f < S → ∀ a ∈ chA (t : Int) out (S : Int) (f : Int) lb, AOk (S + len1 out) al ol a
 | [], t, f, lb, S, ho, hl, ht, hf, a, ha => by
  rw [show chA (t : Int) [] (S : Int) (f : Int) lb = [⟨f, t, lb, 0, 0⟩] from rfl, List.mem_singleton] at ha
  subst ha
  exact ⟨⟨f, rfl, by omega⟩, ⟨t, rfl, by omega⟩, hl, .inl rfl, rfl⟩
 | [o], t, f, lb, S, ho, hl, ht, hf, a, ha => by
  rw [show chA (t : Int) [o] (S : Int) (f : Int) lb = [⟨f, t, lb, o, 0⟩] from rfl, List.mem_singleton] at ha
  subst ha
  exact ⟨⟨f, rfl, by omega⟩, ⟨t, rfl, by omega⟩, hl, .inr (ho o (List.mem_cons_self ..)), rfl⟩
 | o :: o2 :: out, t, f, lb, S, ho, hl, ht, hf, a, ha => by
  have hlen : len1 (o :: o2 :: out) = 1 + len1 (o2 :: out) := by simp [len1]; omega
  rw [show chA (t : Int) (o :: o2 :: out) (S : Int) (f : Int) lb = ⟨f, S, lb, o, 0⟩ :: chA (t : Int) (o2 :: out) ((S + 1 : Nat) : Int) (S : Nat) 0 from rfl, List.mem_cons] at ha
  rcases ha with rfl | ha
  ·exact ⟨⟨f, rfl, by omega⟩, ⟨S, rfl, by omega⟩, hl, .inr (ho o (List.mem_cons_self ..)), rfl⟩
  ·have := chA_ok al ol (o2 :: out) t S 0 (S + 1) (fun y hy => ho y (List.mem_cons_of_mem _ hy)) (.inl rfl) (by omega) (by omega) a ha
   refine this.mono ?_
   omega
theorem chA_path {A : List S53} : ∀ (out : List Int) (t f : Nat) (lb : Int) (S : Nat), (∀ a ∈ chA (t : Int) out (S : Int) (f : Int) lb, a ∈ A) → PQ A f (lw lb) t
 | [], t, f, lb, S, h => by
  have := PQ.arc (h ⟨f, t, lb, 0, 0⟩ (List.mem_singleton.mpr rfl)) rfl rfl (.nil t)
  rwa [List.append_nil] at this
 | [o], t, f, lb, S, h => by
  have := PQ.arc (h ⟨f, t, lb, o, 0⟩ (List.mem_singleton.mpr rfl)) rfl rfl (.nil t)
  rwa [List.append_nil] at this
 | o :: o2 :: out, t, f, lb, S, h => by
  have g := chA_path (A := A) (o2 :: out) t S 0 (S + 1) (fun a ha => h a (List.mem_cons_of_mem _ ha))
  have := PQ.arc (h ⟨f, S, lb, o, 0⟩ (List.mem_cons_self ..)) rfl rfl g
  rwa [show lw 0 = [] from rfl, List.append_nil] at this
structure MI (al ol : List Int) (K : Nat) (dn : List (Int × Int)) (W : List Int) (A : List S53) (S : Nat) : Prop where
 wl : W.length = K
 ks : K ≤ S
 wok : ∀ i, i < K → ∃ w : Nat, W[i]? = some (w : Int) ∧ (w = 0 ∨ (K ≤ w ∧ w < S ∧ PQ A i [] w))
 inj : ∀ i j, i < K → W[i]? = W[j]? → W[i]? ≠ some 0 → i = j
 arc : ∀ a ∈ A, AOk S al ol a
 key1 : ∀ a ∈ A, a.fFrom < (K : Int) → a.fIn ≠ 0 → (a.fFrom, a.fIn) ∈ dn
 key2 : ∀ a ∈ A, a.fIn = 0 → ∀ i : Nat, i < K → a.fFrom = (i : Int) → W[i]? ≠ some 0
 key3 : ∀ a ∈ A, (K : Int) ≤ a.fFrom → a.fIn ≠ 0 → ∃ i : Nat, i < K ∧ W[i]? = some a.fFrom ∧ ((i : Int), a.fIn) ∈ dn
 nod : (A.map keyA).Nodup
 rd : ∀ (i : Nat) (x : Int), ((i : Int), x) ∈ dn → ∃ j : Nat, j < K ∧ PQ A i [x] j
 dk : ∀ k ∈ dn, k.1 < (K : Int)
theorem MI.init (al ol : List Int) (K : Nat) : MI al ol K [] (List.replicate K 0) [] K := by
 refine ⟨by simp, Nat.le_refl _, fun i hi => ⟨0, by rw [List.getElem?_replicate, if_pos hi]; rfl, .inl rfl⟩, fun i j hi _ h => ?_, fun a h => (by cases h), fun a h => (by cases h), fun a h => (by cases h), fun a h => (by cases h), List.Pairwise.nil, fun i x h => (by cases h), fun k h => (by cases h)⟩
 rw [List.getElem?_replicate, if_pos hi] at h
 exact absurd rfl h
theorem mem_range_key {S n : Nat} {k : Int × Int} (h : k ∈ (List.range' S n).map fun (j : Nat) => ((j : Int), (0 : Int))) : ∃ j : Nat, S ≤ j ∧ j < S + n ∧ k = ((j : Int), 0) := by
 obtain ⟨j, hj, rfl⟩ := List.mem_map.mp h
 rw [List.mem_range'_1] at hj
 exact ⟨j, hj.1, hj.2, rfl⟩
theorem range_key_nodup (S n : Nat) : ((List.range' S n).map fun (j : Nat) => ((j : Int), (0 : Int))).Nodup := by
 refine List.Pairwise.map _ ?_ (List.nodup_range' (s := S) (n := n))
 intro a b hne e
 exact hne (by have := congrArg Prod.fst e; dsimp only at this; omega)
theorem MI.chain_nodup {al ol K dn W A S} (h : MI al ol K dn W A S) {fr lb : Int} (hfr : fr < (S : Int)) (hk : (fr, lb) ∉ A.map keyA) (n S' : Nat) (hS : S ≤ S') : (A.map keyA ++ (fr, lb) :: (List.range' S' n).map fun (j : Nat) => ((j : Int), (0 : Int))).Nodup := by
 refine List.nodup_append.mpr ⟨h.nod, List.nodup_cons.mpr ⟨fun hm => ?_, range_key_nodup _ _⟩, fun x hx y hy e => ?_⟩
 ·obtain ⟨j, g1, g2, e⟩ := mem_range_key hm
  have := congrArg Prod.fst e
  dsimp only at this
  omega
 ·subst e
  rcases List.mem_cons.mp hy with rfl | hy
  ·exact hk hx
  ·obtain ⟨j, g1, g2, e⟩ := mem_range_key hy
   obtain ⟨a, ha, ea⟩ := List.mem_map.mp hx
   obtain ⟨f, e1, e2⟩ := (h.arc a ha).fr
   have := congrArg Prod.fst (ea.trans e)
   dsimp only [keyA] at this
   omega
theorem mem_chA_key {out : List Int} {to fr lb : Int} {S : Nat} {a : S53} (h : a ∈ chA to out (S : Int) fr lb) : (a.fFrom = fr ∧ a.fIn = lb) ∨ ∃ j : Nat, S ≤ j ∧ a.fFrom = (j : Int) ∧ a.fIn = 0 := by
 have : keyA a ∈ (chA to out (S : Int) fr lb).map keyA := List.mem_map_of_mem h
 rw [chA_key, List.mem_cons] at this
 rcases this with e | e
 ·exact .inl ⟨congrArg Prod.fst e, congrArg Prod.snd e⟩
 ·obtain ⟨j, g1, g2, e⟩ := mem_range_key e
  exact .inr ⟨j, g1, congrArg Prod.fst e, congrArg Prod.snd e⟩
theorem MI.chain {al ol K dn W A S} (h : MI al ol K dn W A S) {i t : Nat} (hi : i < K) (ht : t < K) {x : Int} (hx : x ∈ al) (hx0 : x ≠ 0) (hd : ((i : Int), x) ∉ dn) {out : List Int} (ho : ∀ y ∈ out, y ∈ ol) :
  MI al ol K (dn ++ [((i : Int), x)]) W (A ++ chA (t : Int) out (S : Int) (i : Int) x) (S + len1 out) := by
 have hks := h.ks
 have sub : ∀ a ∈ A, a ∈ A ++ chA (t : Int) out (S : Int) (i : Int) x := fun a ha => List.mem_append_left _ ha
 have subd : ∀ k ∈ dn, k ∈ dn ++ [((i : Int), x)] := fun k hk => List.mem_append_left _ hk
 have hnew : ((i : Int), x) ∈ dn ++ [((i : Int), x)] := by simp
 refine ⟨h.wl, by omega, fun j hj => ?_, h.inj, fun a ha => ?_, fun a ha g0 g1 => ?_, fun a ha g0 j hj g1 => ?_, fun a ha g0 g1 => ?_, ?_, fun j y hy => ?_, fun k hk => ?_⟩
 ·obtain ⟨w, e, g⟩ := h.wok j hj
  refine ⟨w, e, g.imp_right fun g => ⟨g.1, by omega, g.2.2.mono sub⟩⟩
 ·rcases List.mem_append.mp ha with ha | ha
  ·exact (h.arc a ha).mono (by omega)
  ·exact chA_ok al ol out t i x S ho (.inr hx) (by omega) (by omega) a ha
 ·rcases List.mem_append.mp ha with ha | ha
  ·exact subd _ (h.key1 a ha g0 g1)
  ·rcases mem_chA_key ha with ⟨e1, e2⟩ | ⟨j, e0, e1, e2⟩
   ·rw [e1, e2]; exact hnew
   ·exact absurd e2 g1
 ·rcases List.mem_append.mp ha with ha | ha
  ·exact h.key2 a ha g0 j hj g1
  ·rcases mem_chA_key ha with ⟨e1, e2⟩ | ⟨j', e0, e1, e2⟩
   ·exact absurd (e2 ▸ g0) hx0
   ·omega
 ·rcases List.mem_append.mp ha with ha | ha
  ·obtain ⟨j, hj, e, hm⟩ := h.key3 a ha g0 g1
   exact ⟨j, hj, e, subd _ hm⟩
  ·rcases mem_chA_key ha with ⟨e1, e2⟩ | ⟨j, e0, e1, e2⟩
   ·omega
   ·exact absurd e2 g1
 ·rw [List.map_append, chA_key]
  refine h.chain_nodup (by omega) (fun hm => ?_) _ _ (Nat.le_refl _)
  obtain ⟨a, ha, e⟩ := List.mem_map.mp hm
  have e1 : a.fFrom = (i : Int) := congrArg Prod.fst e
  have e2 : a.fIn = x := congrArg Prod.snd e
  have := h.key1 a ha (by omega) (by rw [e2]; exact hx0)
  rw [e1, e2] at this
  exact hd this
 ·rcases List.mem_append.mp hy with hy | hy
  ·obtain ⟨t', g1, g2⟩ := h.rd j y hy
   exact ⟨t', g1, g2.mono sub⟩
  ·rw [List.mem_singleton] at hy
   have e1 : j = i := by have := congrArg Prod.fst hy; dsimp only at this; omega
   have e2 : y = x := congrArg Prod.snd hy
   subst e1 e2
   have := chA_path (A := A ++ chA (t : Int) out (S : Int) (j : Int) y) out t j y S (fun a ha => List.mem_append_right _ ha)
   rw [show lw y = [y] from if_neg hx0] at this
   exact ⟨t, ht, this⟩
 ·rcases List.mem_append.mp hk with hk | hk
  ·exact h.dk k hk
  ·rw [List.mem_singleton] at hk; subst hk; show (i : Int) < K; omega
theorem MI.flush {al ol K dn W A S} (h : MI al ol K dn W A S) {i : Nat} (hi : i < K) (hw : W[i]? = some 0) {tl : List Int} (ho : ∀ y ∈ tl, y ∈ ol) (hK : 0 < K) :
  MI al ol K dn (W.set i (S : Int)) (A ++ chA (S : Int) tl ((S + 1 : Nat) : Int) (i : Int) 0) (S + 1 + len1 tl) := by
 have hks := h.ks
 have sub : ∀ a ∈ A, a ∈ A ++ chA (S : Int) tl ((S + 1 : Nat) : Int) (i : Int) 0 := fun a ha => List.mem_append_left _ ha
 have hwl := h.wl
 have gs : ∀ j, (W.set i (S : Int))[j]? = if i = j then some (S : Int) else W[j]? := fun j => by
  rw [List.getElem?_set]
  split
  ·rename_i e; subst e; rw [if_pos (by omega)]
  ·rfl
 have wS : ∀ j : Nat, W[j]? ≠ some (S : Int) := fun j e => by
  have hj : j < K := by rw [← hwl]; exact lt_of_getElem? e
  obtain ⟨w, e', g⟩ := h.wok j hj
  rw [e] at e'
  have := Option.some.inj e'
  rcases g with g | g
  ·omega
  ·omega
 refine ⟨by rw [List.length_set]; exact hwl, by omega, fun j hj => ?_, fun j j' hj g0 g1 => ?_, fun a ha => ?_, fun a ha g0 g1 => ?_, fun a ha g0 j hj g1 => ?_, fun a ha g0 g1 => ?_, ?_, fun j y hy => ?_, h.dk⟩
 ·rw [gs]
  split
  ·rename_i e; subst e
   refine ⟨S, rfl, .inr ⟨hks, by omega, ?_⟩⟩
   have := chA_path (A := A ++ chA (S : Int) tl ((S + 1 : Nat) : Int) (i : Int) 0) tl S i 0 (S + 1) (fun a ha => List.mem_append_right _ ha)
   exact this
  ·obtain ⟨w, e, g⟩ := h.wok j hj
   exact ⟨w, e, g.imp_right fun g => ⟨g.1, by omega, g.2.2.mono sub⟩⟩
 ·rw [gs, gs] at g0
  rw [gs] at g1
  by_cases e1 : i = j
  ·by_cases e2 : i = j'
   ·omega
   ·rw [if_pos e1, if_neg e2] at g0; exact absurd g0.symm (wS j')
  ·by_cases e2 : i = j'
   ·rw [if_neg e1, if_pos e2] at g0; exact absurd g0 (wS j)
   ·rw [if_neg e1, if_neg e2] at g0
    rw [if_neg e1] at g1
    exact h.inj j j' hj g0 g1
 ·rcases List.mem_append.mp ha with ha | ha
  ·exact (h.arc a ha).mono (by omega)
  ·have := chA_ok al ol tl S i 0 (S + 1) ho (.inl rfl) (by omega) (by omega) a ha
   exact this
 ·rcases List.mem_append.mp ha with ha | ha
  ·exact h.key1 a ha g0 g1
  ·rcases mem_chA_key ha with ⟨e1, e2⟩ | ⟨j, e0, e1, e2⟩
   ·exact absurd e2 g1
   ·exact absurd e2 g1
 ·rw [gs]
  split
  ·intro e; have := Option.some.inj e; omega
  ·rename_i hne
   rcases List.mem_append.mp ha with ha | ha
   ·exact h.key2 a ha g0 j hj g1
   ·rcases mem_chA_key ha with ⟨e1, e2⟩ | ⟨j', e0, e1, e2⟩
    ·omega
    ·omega
 ·rcases List.mem_append.mp ha with ha | ha
  ·obtain ⟨j, hj, e, hm⟩ := h.key3 a ha g0 g1
   refine ⟨j, hj, ?_, hm⟩
   rw [gs]
   split
   ·rename_i e'; subst e'; rw [hw] at e; have := Option.some.inj e; omega
   ·exact e
  ·rcases mem_chA_key ha with ⟨e1, e2⟩ | ⟨j, e0, e1, e2⟩
   ·exact absurd e2 g1
   ·exact absurd e2 g1
 ·rw [List.map_append, chA_key]
  refine h.chain_nodup (by omega) (fun hm => ?_) _ _ (by omega)
  obtain ⟨a, ha, e⟩ := List.mem_map.mp hm
  exact h.key2 a ha (congrArg Prod.snd e) i hi (congrArg Prod.fst e) hw
 ·obtain ⟨t', g1, g2⟩ := h.rd j y hy
  exact ⟨t', g1, g2.mono sub⟩
theorem MI.late {al ol K dn W A S} (h : MI al ol K dn W A S) {i t w : Nat} (hi : i < K) (ht : t < K) (hw : W[i]? = some (w : Int)) (hw0 : w ≠ 0) {x : Int} (hx : x ∈ al) (hx0 : x ≠ 0) (hd : ((i : Int), x) ∉ dn) (hxo : x ∈ ol) :
  MI al ol K (dn ++ [((i : Int), x)]) W (A ++ [⟨(w : Int), (t : Int), x, x, 0⟩]) S := by
 have hks := h.ks
 obtain ⟨w', e', g'⟩ := h.wok i hi
 rw [hw] at e'
 have ew : w' = w := by have := Option.some.inj e'; omega
 subst ew
 obtain ⟨k1, k2, k3⟩ := g'.resolve_left hw0
 have sub : ∀ a ∈ A, a ∈ A ++ [⟨(w' : Int), (t : Int), x, x, 0⟩] := fun a ha => List.mem_append_left _ ha
 have subd : ∀ k ∈ dn, k ∈ dn ++ [((i : Int), x)] := fun k hk => List.mem_append_left _ hk
 have hnew : ((i : Int), x) ∈ dn ++ [((i : Int), x)] := by simp
 refine ⟨h.wl, by omega, fun j hj => ?_, h.inj, fun a ha => ?_, fun a ha g0 g1 => ?_, fun a ha g0 j hj g1 => ?_, fun a ha g0 g1 => ?_, ?_, fun j y hy => ?_, fun k hk => ?_⟩
 ·obtain ⟨w, e, g⟩ := h.wok j hj
  refine ⟨w, e, g.imp_right fun g => ⟨g.1, by omega, g.2.2.mono sub⟩⟩
 ·rcases List.mem_append.mp ha with ha | ha
  ·exact h.arc a ha
  ·rw [List.mem_singleton] at ha; subst ha
   exact ⟨⟨w', rfl, k2⟩, ⟨t, rfl, by omega⟩, .inr hx, .inr hxo, rfl⟩
 ·rcases List.mem_append.mp ha with ha | ha
  ·exact subd _ (h.key1 a ha g0 g1)
  ·rw [List.mem_singleton] at ha; subst ha
   dsimp only at g0; omega
 ·rcases List.mem_append.mp ha with ha | ha
  ·exact h.key2 a ha g0 j hj g1
  ·rw [List.mem_singleton] at ha; subst ha
   exact absurd g0 hx0
 ·rcases List.mem_append.mp ha with ha | ha
  ·obtain ⟨j, hj, e, hm⟩ := h.key3 a ha g0 g1
   exact ⟨j, hj, e, subd _ hm⟩
  ·rw [List.mem_singleton] at ha; subst ha
   exact ⟨i, hi, hw, hnew⟩
 ·rw [List.map_append]
  refine List.nodup_append.mpr ⟨h.nod, by simp, fun k hk k' hk' e => ?_⟩
  subst e
  simp only [List.map_cons, List.map_nil, List.mem_singleton] at hk'
  subst hk'
  obtain ⟨a, ha, e⟩ := List.mem_map.mp hk
  have e1 : a.fFrom = (w' : Int) := congrArg Prod.fst e
  have e2 : a.fIn = x := congrArg Prod.snd e
  obtain ⟨j, hj, ej, hm⟩ := h.key3 a ha (by omega) (by rw [e2]; exact hx0)
  rw [e1] at ej
  have hij : i = j := h.inj i j hi (by rw [hw, ej]) (by rw [hw]; intro e; have := Option.some.inj e; omega)
  subst hij
  rw [e2] at hm
  exact hd hm
 ·rcases List.mem_append.mp hy with hy | hy
  ·obtain ⟨t', g1, g2⟩ := h.rd j y hy
   exact ⟨t', g1, g2.mono sub⟩
  ·rw [List.mem_singleton] at hy
   have e1 : j = i := by have := congrArg Prod.fst hy; dsimp only at this; omega
   have e2 : y = x := congrArg Prod.snd hy
   subst e1 e2
   refine ⟨t, ht, ?_⟩
   have p2 := PQ.arc (A := A ++ [⟨(w' : Int), (t : Int), y, y, 0⟩]) (a := ⟨(w' : Int), (t : Int), y, y, 0⟩) (by simp) rfl rfl (.nil t)
   rw [show lw y = [y] from if_neg hx0, List.append_nil] at p2
   exact (k3.mono sub).app p2
 ·rcases List.mem_append.mp hk with hk | hk
  ·exact h.dk k hk
  ·rw [List.mem_singleton] at hk; subst hk; show (i : Int) < K; omega
end Go.Abs.Qe
namespace Go.Abs.Qf
open Go.Abs Go.Abs.Qa Go.Abs.Qb Go.Abs.Qc Go.Abs.Qd Go.Abs.Qe Go.Abs.Yb Go.Abs.Yc Go.Abs.Yf Go.Abs.Yg Go.Abs.Yi
set_option linter.unusedVariables false
theorem f33_loop (m0 : Nat) {xs ys : List Int} (hl : xs.length = ys.length) (hb : xs.length < 1000000) : ∀ (K i : Nat), i ≤ xs.length → xs.length < K + i → ∃ r, iter (fun (y : Int) => f33_B1 m0 xs ys y) K (i : Int) = some r
 | 0, i, h1, h2 => by omega
 | K + 1, i, h1, h2 => by
  by_cases hi : i < xs.length
  ·by_cases e : xs[i] = ys[i]
   ·obtain ⟨r, hr⟩ := f33_loop m0 hl hb K (i + 1) hi (by omega)
    refine ⟨r, ?_⟩
    rw [← hr]
    refine iter_nxt ?_
    unfold f33_B1
    rw [decide_eq_true (show (i : Int) < (xs.length : Int) by omega), cnd_true, idx_nat, idx_nat, List.getElem?_eq_getElem hi, List.getElem?_eq_getElem (show i < ys.length by omega), bnd_some', bnd_some', show (xs[i] != ys[i]) = false by simp [e], cnd_false, w64_id ⟨by omega, by omega⟩]
    rfl
   ·refine ⟨.inl false, iter_ret ?_⟩
    unfold f33_B1
    rw [decide_eq_true (show (i : Int) < (xs.length : Int) by omega), cnd_true, idx_nat, idx_nat, List.getElem?_eq_getElem hi, List.getElem?_eq_getElem (show i < ys.length by omega), bnd_some', bnd_some', show (xs[i] != ys[i]) = true by simp [e], cnd_true]
  ·refine ⟨.inr i, iter_brk ?_⟩
   unfold f33_B1
   rw [decide_eq_false (show ¬ ((i : Int) < (xs.length : Int)) by omega), cnd_false]
theorem f33_ok (m : Nat) {xs ys : List Int} (hb : xs.length < m) (hm : m < 1000000) : ∃ r, f33 m xs ys = some r := by
 unfold f33
 by_cases hl : xs.length = ys.length
 ·rw [show ((xs.length : Int) != (ys.length : Int)) = false by simp [hl], cnd_false]
  obtain ⟨r, hr⟩ := f33_loop m hl (by omega) m 0 (by omega) (by omega)
  rw [show ((0 : Nat) : Int) = 0 from rfl] at hr
  rw [hr]
  cases r with
  | inl b => exact ⟨b, rfl⟩
  | inr z => exact ⟨true, rfl⟩
 ·rw [show ((xs.length : Int) != (ys.length : Int)) = true by simp; omega, cnd_true]
  exact ⟨false, rfl⟩
theorem wait_ok (m : Nat) (hm : 20 ≤ m) {b : S45} (hb : BOk b) {L : List S75} (hL : ∀ q ∈ L, POk b q) {i : Nat} {p : S75} (hp : L[i]? = some p) : ∃ (n : Nat) (tl : List Int), f32 m b p = some (n : Int) ∧ f31 m b p (n : Int) = some tl ∧ waitM m b L i = some ((n : Int), tl) ∧ tl.length = n ∧ n ≤ 9 ∧ ∀ y ∈ tl, y ∈ b.fWhole := by
 obtain ⟨fit, since, rfl, hf, hs⟩ := (hL p (List.mem_of_getElem? hp)).ex
 have h9 := hb.l9
 obtain ⟨n, e1, n1, n2, n3, n4, n5⟩ := f32_ok m hm hb (since := since) hf
 have e2 := f31_ok m hb (s := (since : Int)) hf n2
 refine ⟨n, (b.fWhole.drop (fit - n)).take n, e1, e2, ?_, by rw [List.length_take, List.length_drop]; omega, by omega, fun y hy => List.mem_of_mem_drop (List.mem_of_mem_take hy)⟩
 unfold waitM
 rw [hp]
 dsimp only
 rw [e1]
 dsimp only
 rw [e2]
 rfl
def olB (b : S45) (al : List Int) : List Int := al ++ b.fR.fTo ++ b.fWhole
theorem mem_olB {b : S45} {al : List Int} {y : Int} : y ∈ olB b al ↔ y ∈ al ∨ y ∈ b.fR.fTo ∨ y ∈ b.fWhole := by
 unfold olB
 rw [List.mem_append, List.mem_append, or_assoc]
theorem flM_ok {al ol K dn W A S} (h : MI al ol K dn W A S) {i : Nat} (hi : i < K) {tl : List Int} (ho : ∀ y ∈ tl, y ∈ ol) :
  ∃ (W' : List Int) (A' : List S53) (S' w : Nat), flM i tl (W, A, (S : Int)) = some ((w : Int), (W', A', (S' : Int))) ∧ MI al ol K dn W' A' S' ∧ W'[i]? = some (w : Int) ∧ w ≠ 0 ∧ A'.length ≤ A.length + tl.length + 1 ∧ S' ≤ S + tl.length + 1 ∧ (∀ a ∈ A, a ∈ A') ∧ S ≤ S' ∧ ∀ (j : Nat) (x : Int), W[j]? = some x → x ≠ 0 → W'[j]? = some x := by
 obtain ⟨w, e, g⟩ := h.wok i hi
 unfold flM
 rw [show ((W, A, (S : Int)) : Mem).1 = W from rfl, e]
 dsimp only
 rcases Nat.eq_zero_or_pos w with h0 | h0
 ·subst h0
  rw [if_pos (by rfl)]
  have hf := h.flush hi e ho (by omega)
  have hcs := chS_eq tl (S + 1)
  refine ⟨W.set i (S : Int), A ++ chA (S : Int) tl ((S + 1 : Nat) : Int) (i : Int) 0, S + 1 + len1 tl, S, ?_, hf, ?_, ?_, ?_, ?_, fun a ha => List.mem_append_left _ ha, by omega, fun j x hj hx => ?_⟩
  ·show some ((S : Int), W.set i (S : Int), A ++ chA (S : Int) tl ((S + 1 : Nat) : Int) (i : Int) 0, chS tl ((S + 1 : Nat) : Int)) = _
   rw [hcs]
  ·rw [List.getElem?_set_self (by rw [h.wl]; exact hi)]
  ·have := h.ks; omega
  ·rw [List.length_append]; have := chA_len tl (S : Int) (i : Int) 0 ((S + 1 : Nat) : Int); omega
  ·simp [len1]; omega
  ·by_cases ej : i = j
   ·subst ej; rw [e] at hj; exact absurd (Option.some.inj hj).symm hx
   ·rw [List.getElem?_set_ne ej]; exact hj
 ·rw [if_neg (by omega)]
  exact ⟨W, A, S, w, rfl, h, e, by omega, by omega, by omega, fun a ha => ha, Nat.le_refl _, fun j x hj _ => hj⟩
theorem mvM_ok (m : Nat) (hm : 40 ≤ m) (hm2 : m < 1000000) {b : S45} (hb : BOk b) {al : List Int} (hal : ∀ x ∈ al, x ≠ 0) {L : List S75} (hL : ∀ q ∈ L, POk b q) {dn W A S} (h : MI al (olB b al) L.length dn W A S) {v : S79} (hv : MOk b al L.length v) (hd : keyM v ∉ dn) {c : Nat} (hA : A.length ≤ 22 * c) (hS : S ≤ 100 + 22 * c) (hc : c ≤ 40000) :
  ∃ (W' : List Int) (A' : List S53) (S' : Nat), mvM m b L v (W, A, (S : Int)) = some (W', A', (S' : Int)) ∧ MI al (olB b al) L.length (dn ++ [keyM v]) W' A' S' ∧ A'.length ≤ 22 * (c + 1) ∧ S' ≤ 100 + 22 * (c + 1) := by
 obtain ⟨i, ei, hi⟩ := hv.fr
 obtain ⟨j, ej, hj⟩ := hv.to
 have ekey : keyM v = ((i : Int), v.fLabel) := by rw [← ei]; rfl
 rw [ekey] at hd ⊢
 have hp : L[i]? = some L[i] := List.getElem?_eq_getElem hi
 obtain ⟨n, tl, e1, e2, e3, e4, e5, e6⟩ := wait_ok m (by omega) hb hL hp
 have hol := hv.ol
 have hoo : ∀ y ∈ v.fOut, y ∈ olB b al := fun y hy => mem_olB.mpr (hv.om y hy)
 have hx0 := hal _ hv.lb
 unfold mvM
 rw [if_pos (by omega), ei, show ((i : Int)).toNat = i from rfl, e3]
 dsimp only
 rw [if_pos ⟨by omega, by omega, by omega⟩]
 have plain : ∃ (W' : List Int) (A' : List S53) (S' : Nat), some (W, A ++ chA v.fTo v.fOut (S : Int) (i : Int) v.fLabel, chS v.fOut (S : Int)) = some ((W', A', (S' : Int)) : Mem) ∧ MI al (olB b al) L.length (dn ++ [((i : Int), v.fLabel)]) W' A' S' ∧ A'.length ≤ 22 * (c + 1) ∧ S' ≤ 100 + 22 * (c + 1) := by
  have g := h.chain hi hj hv.lb hx0 hd hoo
  refine ⟨W, A ++ chA (j : Int) v.fOut (S : Int) (i : Int) v.fLabel, S + len1 v.fOut, by rw [ej, chS_eq], g, ?_, ?_⟩
  ·rw [List.length_append]; have := chA_len v.fOut (j : Int) (i : Int) v.fLabel (S : Int); omega
  ·simp [len1]; omega
 by_cases ht : tl = []
 ·rw [if_pos ht]
  exact plain
 ·rw [if_neg ht]
  obtain ⟨r, hr⟩ := f33_ok m (xs := v.fOut) (ys := tl ++ [v.fLabel]) (by omega) hm2
  rw [hr]
  cases r with
  | false => exact plain
  | true =>
   dsimp only
   obtain ⟨W', A', S', w, g1, g2, g3, g4, g5, g6, _⟩ := flM_ok h hi (tl := tl) (fun y hy => mem_olB.mpr (.inr (.inr (e6 y hy))))
   rw [g1]
   dsimp only
   have := g2.late hi hj g3 g4 hv.lb hx0 hd (mem_olB.mpr (.inl hv.lb))
   refine ⟨W', A' ++ [⟨(w : Int), (j : Int), v.fLabel, v.fLabel, 0⟩], S', by rw [ej], this, ?_, by omega⟩
   rw [List.length_append]
   simp only [List.length_cons, List.length_nil]
   omega
theorem mvsM_ok (m : Nat) (hm : 40 ≤ m) (hm2 : m < 1000000) {b : S45} (hb : BOk b) {al : List Int} (hal : ∀ x ∈ al, x ≠ 0) {L : List S75} (hL : ∀ q ∈ L, POk b q) : ∀ (M : List S79) (dn : List (Int × Int)) (W : List Int) (A : List S53) (S c : Nat), MI al (olB b al) L.length dn W A S → (∀ v ∈ M, MOk b al L.length v) → (dn ++ M.map keyM).Nodup → A.length ≤ 22 * c → S ≤ 100 + 22 * c → c + M.length ≤ 40000 →
  ∃ (W' : List Int) (A' : List S53) (S' : Nat), mvsM m b L M (W, A, (S : Int)) = some (W', A', (S' : Int)) ∧ MI al (olB b al) L.length (dn ++ M.map keyM) W' A' S' ∧ A'.length ≤ 22 * (c + M.length) ∧ S' ≤ 100 + 22 * (c + M.length)
 | [], dn, W, A, S, c, h, hv, hn, hA, hS, hc => ⟨W, A, S, rfl, by simpa using h, by simpa using hA, by simpa using hS⟩
 | v :: r, dn, W, A, S, c, h, hv, hn, hA, hS, hc => by
  simp only [List.length_cons] at hc
  have hd : keyM v ∉ dn := fun hm => by
   rw [List.map_cons] at hn
   exact (List.nodup_append.mp hn).2.2 _ hm _ (List.mem_cons_self ..) rfl
  obtain ⟨W1, A1, S1, g1, g2, g3, g4⟩ := mvM_ok m hm hm2 hb hal hL h (hv v (List.mem_cons_self ..)) hd hA hS (by omega)
  obtain ⟨W2, A2, S2, k1, k2, k3, k4⟩ := mvsM_ok m hm hm2 hb hal hL r (dn ++ [keyM v]) W1 A1 S1 (c + 1) g2 (fun u hu => hv u (List.mem_cons_of_mem _ hu)) (by rw [List.append_assoc]; exact hn) g3 g4 (by omega)
  refine ⟨W2, A2, S2, ?_, by rw [List.append_assoc] at k2; exact k2, by simp only [List.length_cons]; omega, by simp only [List.length_cons]; omega⟩
  unfold mvsM
  rw [g1]
  exact k1
structure FI (K : Nat) (W : List Int) (A : List S53) (S n : Nat) (F : List S58) : Prop where
 len : F.length = n
 f : ∀ i, i < n → ∃ e : Nat, F[i]? = some ⟨(e : Int), 0⟩ ∧ e < S ∧ PQ A i [] e ∧ (e = i ∨ (W[i]? = some (e : Int) ∧ e ≠ 0))
theorem fnM_ok (m : Nat) (hm : 40 ≤ m) {b : S45} (hb : BOk b) {al : List Int} {L : List S75} (hL : ∀ q ∈ L, POk b q) {dn W A S} (h : MI al (olB b al) L.length dn W A S) {n : Nat} {p : S75} (hp : L[n]? = some p) {F : List S58} (hF : FI L.length W A S n F) (hl : L.length ≤ 100) {c : Nat} (hA : A.length ≤ 22 * c) (hS : S ≤ 100 + 22 * c) (hc : c ≤ 40000) :
  ∃ (W' : List Int) (A' : List S53) (S' : Nat) (F' : List S58), fnM m b n p ((W, A, (S : Int)), F) = some ((W', A', (S' : Int)), F') ∧ MI al (olB b al) L.length dn W' A' S' ∧ FI L.length W' A' S' (n + 1) F' ∧ A'.length ≤ 22 * (c + 1) ∧ S' ≤ 100 + 22 * (c + 1) := by
 have hn : n < L.length := lt_of_getElem? hp
 obtain ⟨k, tl, e1, e2, e3, e4, e5, e6⟩ := wait_ok m (by omega) hb hL hp
 have hks := h.ks
 have hfl := hF.len
 unfold fnM
 rw [e1]
 dsimp only
 by_cases h0 : 0 < k
 ·rw [if_pos (by omega), e2]
  dsimp only
  rw [if_pos ⟨by omega, by omega, by omega, by omega⟩]
  obtain ⟨W', A', S', w, g1, g2, g3, g4, g5, g6, g7, g8, g9⟩ := flM_ok h hn (tl := tl) (fun y hy => mem_olB.mpr (.inr (.inr (e6 y hy))))
  rw [g1]
  refine ⟨W', A', S', F ++ [⟨(w : Int), 0⟩], rfl, g2, ⟨by simp [hfl], fun i hi => ?_⟩, by omega, by omega⟩
  by_cases e : i < n
  ·rw [List.getElem?_append_left (by omega)]
   obtain ⟨x, a1, a2, a3, a4⟩ := hF.f i e
   exact ⟨x, a1, by omega, a3.mono g7, a4.imp_right fun a4 => ⟨g9 i _ a4.1 (by omega), a4.2⟩⟩
  ·have : i = n := by omega
   subst this
   obtain ⟨w', b1, b2⟩ := g2.wok i hn
   rw [g3] at b1
   have : w' = w := by have := Option.some.inj b1; omega
   subst this
   obtain ⟨b3, b4, b5⟩ := b2.resolve_left g4
   refine ⟨w', ?_, b4, b5, .inr ⟨g3, g4⟩⟩
   rw [List.getElem?_append_right (by omega), hfl, Nat.sub_self]
   rfl
 ·rw [if_neg (by omega), if_pos (by omega)]
  refine ⟨W, A, S, F ++ [⟨(n : Int), 0⟩], rfl, h, ⟨by simp [hfl], fun i hi => ?_⟩, by omega, by omega⟩
  by_cases e : i < n
  ·rw [List.getElem?_append_left (by omega)]
   exact hF.f i e
  ·have : i = n := by omega
   subst this
   refine ⟨i, ?_, by omega, .nil i, .inl rfl⟩
   rw [List.getElem?_append_right (by omega), hfl, Nat.sub_self]
   rfl
theorem fnsM_ok (m : Nat) (hm : 40 ≤ m) {b : S45} (hb : BOk b) {al : List Int} {L : List S75} (hL : ∀ q ∈ L, POk b q) (hl : L.length ≤ 100) {dn : List (Int × Int)} : ∀ (K n : Nat) (W : List Int) (A : List S53) (S : Nat) (F : List S58) (c : Nat), L.length < n + K → n ≤ L.length → MI al (olB b al) L.length dn W A S → FI L.length W A S n F → A.length ≤ 22 * (c + n) → S ≤ 100 + 22 * (c + n) → c ≤ 39000 →
  ∃ (W' : List Int) (A' : List S53) (S' : Nat) (F' : List S58), fnsM m b L K n ((W, A, (S : Int)), F) = some ((W', A', (S' : Int)), F') ∧ MI al (olB b al) L.length dn W' A' S' ∧ FI L.length W' A' S' L.length F' ∧ A'.length ≤ 22 * (c + L.length) ∧ S' ≤ 100 + 22 * (c + L.length)
 | 0, n, W, A, S, F, c, hK, hn, h, hF, hA, hS, hc => by omega
 | K + 1, n, W, A, S, F, c, hK, hn, h, hF, hA, hS, hc => by
  unfold fnsM
  by_cases e : n < L.length
  ·have hp : L[n]? = some L[n] := List.getElem?_eq_getElem e
   rw [hp]
   dsimp only
   obtain ⟨W1, A1, S1, F1, g1, g2, g3, g4, g5⟩ := fnM_ok m hm hb hL h hp hF hl hA hS (by omega)
   rw [g1]
   dsimp only
   exact fnsM_ok m hm hb hL hl K (n + 1) W1 A1 S1 F1 c (by omega) e g2 g3 g4 g5 hc
  ·rw [List.getElem?_eq_none (by omega)]
   have : n = L.length := by omega
   subst this
   exact ⟨W, A, S, F, rfl, h, hF, hA, hS⟩
theorem arcs_ok (m : Nat) (hm : 40 ≤ m) (hm2 : m < 1000000) {b : S45} (hb : BOk b) {al : List Int} (hal : ∀ x ∈ al, x ≠ 0) (haln : al.Nodup) (hal3 : al.length ≤ 300) {L : List S75} {M : List S79} (hP : PlOk b al L M) :
  ∃ (W A F : _) (S : Nat) (s : Mem), mvsM m b L M (List.replicate L.length 0, [], (L.length : Int)) = some s ∧ fnsM m b L 1000000 0 (s, []) = some ((W, A, (S : Int)), F) ∧ MI al (olB b al) L.length (M.map keyM) W A S ∧ FI L.length W A S L.length F ∧ A.length < 900000 ∧ S < 1000000000 := by
 have hl := hP.l100
 have hml : M.length ≤ 30000 := by rw [hP.len]; exact Nat.le_trans (Nat.mul_le_mul hl hal3) (by decide)
 obtain ⟨W1, A1, S1, g1, g2, g3, g4⟩ := mvsM_ok m hm hm2 hb hal hP.pok M [] (List.replicate L.length 0) [] L.length 0 (MI.init al (olB b al) L.length) hP.mok (by rw [List.nil_append]; exact hP.nodup haln) (by simp) (by omega) (by omega)
 rw [List.nil_append] at g2
 obtain ⟨W2, A2, S2, F2, k1, k2, k3, k4, k5⟩ := fnsM_ok m hm hb hP.pok hl 1000000 0 W1 A1 S1 [] M.length (by omega) (by omega) g2 ⟨rfl, fun i hi => by omega⟩ (by simpa using g3) (by simpa using g4) (by omega)
 exact ⟨W2, A2, F2, S2, _, g1, k1, k2, k3, by omega, by omega⟩
end Go.Abs.Qf
namespace Go.Abs.Qg
open Go.Abs Go.Abs.Qa Go.Abs.Qb Go.Abs.Qc Go.Abs.Qd Go.Abs.Qe Go.Abs.Qf Go.Abs.Yb Go.Abs.Yc Go.Abs.Yf Go.Abs.Yg Go.Abs.Yi
set_option linter.unusedVariables false
theorem reads_over {A : List S53} {S : Nat} {al ol : List Int} (hA : ∀ a ∈ A, AOk S al ol a) {s t : Nat} {w : List Int} (h : PQ A s w t) : ∀ x ∈ w, x ∈ al := by
 induction h with
 | nil s => exact fun x hx => by cases hx
 | eps ha he _ ih => exact ih
 | lab ha he h0 _ ih =>
  intro x hx
  rcases List.mem_cons.mp hx with rfl | hx
  ·rcases (hA _ ha).i with g | g
   ·exact absurd (he.symm.trans g) h0
   ·rw [← he]; exact g
  ·exact ih x hx
theorem over_reads {al ol K dn W A S F} (h : MI al ol K dn W A S) (hF : FI K W A S K F) (hd : ∀ (i : Nat) (x : Int), i < K → x ∈ al → ((i : Int), x) ∈ dn) : ∀ (w : List Int) (i : Nat), i < K → (∀ x ∈ w, x ∈ al) → ∃ f ∈ F, PQ A i w f.fState.toNat
 | [], i, hi, _ => by
  obtain ⟨e, a1, a2, a3, _⟩ := hF.f i hi
  exact ⟨_, List.mem_of_getElem? a1, a3⟩
 | x :: w, i, hi, hw => by
  obtain ⟨j, hj, hp⟩ := h.rd i x (hd i x hi (hw x (List.mem_cons_self ..)))
  obtain ⟨f, hf, hp2⟩ := over_reads h hF hd w j hj fun y hy => hw y (List.mem_cons_of_mem _ hy)
  exact ⟨f, hf, hp.app hp2⟩
theorem acc_over {al ol K dn W A S F} (h : MI al ol K dn W A S) (hF : FI K W A S K F) (hd : ∀ (i : Nat) (x : Int), i < K → x ∈ al → ((i : Int), x) ∈ dn) (hK : 0 < K) (w : List Int) : (∃ f ∈ F, PQ A 0 w f.fState.toNat) ↔ ∀ x ∈ w, x ∈ al :=
 ⟨fun ⟨f, _, hp⟩ => reads_over h.arc hp, over_reads h hF hd w 0 hK⟩
theorem iter_unit {α R : Type} (xs : List α) (B : Int → Option (Stp R Int)) (g : α → Option R) (hb : xs.length < 1000000000)
  (hB : ∀ (i : Nat) (x : α), xs[i]? = some x → B (i : Int) = some (match g x with | none => .nxt (w64 ((i : Int) + 1)) | some r => .ret r)) (hE : B (xs.length : Int) = some (.brk (xs.length : Int))) :
  ∀ (K i : Nat), i ≤ xs.length → xs.length < K + i → iter B K (i : Int) = some (match (xs.drop i).findSome? g with | none => .inr (xs.length : Int) | some r => .inl r)
 | 0, i, h1, h2 => by omega
 | K + 1, i, h1, h2 => by
  by_cases hi : i < xs.length
  ·have e := hB i xs[i] (List.getElem?_eq_getElem hi)
   rw [List.drop_eq_getElem_cons hi, List.findSome?_cons]
   cases hg : g xs[i] with
   | none =>
    rw [hg] at e
    rw [iter_nxt e, w64_id ⟨by omega, by omega⟩]
    exact iter_unit xs B g hb hB hE K (i + 1) hi (by omega)
   | some r =>
    rw [hg] at e
    rw [iter_ret e]
  ·have : i = xs.length := by omega
   subst this
   rw [List.drop_length]
   exact iter_brk hE
theorem f9_inner (m0 : Nat) (x : Int) (ys : List Int) (hb : ys.length < 1000000000) : ∀ (K i : Nat) (b : Bool), i ≤ ys.length → ys.length < K + i → iter (fun (y : Bool × Int) => f9_B2 m0 ys x y.1 y.2) K (b, (i : Int)) = some (.inr (b || decide (x ∈ ys.drop i), (ys.length : Int)))
 | 0, i, b, h1, h2 => by omega
 | K + 1, i, b, h1, h2 => by
  by_cases hi : i < ys.length
  ·have e : f9_B2 m0 ys x b (i : Int) = some (.nxt (b || (x == ys[i]), ((i + 1 : Nat) : Int))) := by
    unfold f9_B2 f9_r1
    rw [decide_eq_true (show (i : Int) < (ys.length : Int) by omega), cnd_true, idx_nat, List.getElem?_eq_getElem hi, bnd_some', w64_id ⟨by omega, by omega⟩]
    rfl
   have hdec : decide (x ∈ ys.drop i) = (x == ys[i] || decide (x ∈ ys.drop (i + 1))) := by
    rw [Bool.eq_iff_iff]
    simp only [decide_eq_true_eq, Bool.or_eq_true, beq_iff_eq]
    rw [List.drop_eq_getElem_cons hi, List.mem_cons]
   rw [iter_nxt (a' := (b || (x == ys[i]), ((i + 1 : Nat) : Int))) e, f9_inner m0 x ys hb K (i + 1) _ hi (by omega), hdec, Bool.or_assoc]
  ·have : i = ys.length := by omega
   subst this
   have e : f9_B2 m0 ys x b (ys.length : Int) = some (.brk (b, (ys.length : Int))) := by
    unfold f9_B2
    rw [decide_eq_false (by omega), cnd_false]
   rw [iter_brk (a' := (b, (ys.length : Int))) e]
   simp
theorem f9_ok (m : Nat) {w al : List Int} (hw : w.length < m) (ha : al.length < m) (hm : m < 1000000000) : f9 m w al = some (decide (∀ x ∈ w, x ∈ al)) := by
 unfold f9
 have := iter_unit w (fun (y : Int) => f9_B3 m w al y) (fun x => if x ∈ al then none else some false) (by omega) (fun i x hx => by
  show f9_B3 m w al (i : Int) = _
  have hi := lt_of_getElem? hx
  unfold f9_B3
  rw [decide_eq_true (show (i : Int) < (w.length : Int) by omega), cnd_true, idx_nat, hx, bnd_some']
  have := f9_inner m x al (by omega) m 0 false (by omega) (by omega)
  rw [show ((0 : Nat) : Int) = 0 from rfl] at this
  rw [this, brk_inr, List.drop_zero, Bool.false_or]
  by_cases e : x ∈ al
  ·simp only [decide_eq_true e, Bool.not_true, cnd_false, if_pos e]
  ·simp only [decide_eq_false e, Bool.not_false, cnd_true, if_neg e]) (by
  show f9_B3 m w al (w.length : Int) = _
  unfold f9_B3
  rw [decide_eq_false (by omega), cnd_false]) m 0 (by omega) (by omega)
 rw [show ((0 : Nat) : Int) = 0 from rfl] at this
 rw [this, List.drop_zero]
 cases hf : w.findSome? (fun x => if x ∈ al then none else some false) with
 | none =>
  rw [List.findSome?_eq_none_iff] at hf
  rw [decide_eq_true (fun x hx => by
   have := hf x hx
   by_cases e : x ∈ al
   ·exact e
   ·simp [e] at this)]
  rfl
 | some r =>
  obtain ⟨x, hx, e⟩ := List.exists_of_findSome?_eq_some hf
  have hx2 : ¬ x ∈ al := fun h => by simp [h] at e
  simp [hx2] at e
  subst e
  rw [decide_eq_false (fun h => hx2 (h x hx))]
  rfl
theorem f6_ok (m : Nat) (hm : 40 ≤ m) (hm2 : m < 1000000000) (w : List Int) : ∃ r, f6 m w 0 = some r ∧ (r.fCode = 0 → w.length ≤ 30 ∧ ∀ x ∈ w, 1 ≤ x ∧ x ≤ 1114111) := by
 unfold f6
 by_cases h30 : w.length ≤ 30
 ·rw [decide_eq_false (show ¬ ((w.length : Int) > 30) by omega), cnd_false]
  have := iter_unit w (fun (y : Int) => f6_B2 m w 0 y) (fun x => if 1 ≤ x ∧ x ≤ 1114111 then none else some (⟨3, 0⟩ : S30)) (by omega) (fun i x hx => by
   show f6_B2 m w 0 (i : Int) = _
   have hi := lt_of_getElem? hx
   unfold f6_B2 f6_r1
   rw [decide_eq_true (show (i : Int) < (w.length : Int) by omega), cnd_true, idx_nat, hx, bnd_some']
   by_cases e : 1 ≤ x ∧ x ≤ 1114111
   ·rw [decide_eq_false (show ¬ x < 1 by omega), decide_eq_false (show ¬ x > 1114111 by omega), if_pos e]
    rfl
   ·have : (decide (x < 1) || decide (x > 1114111)) = true := by
     rw [Bool.or_eq_true, decide_eq_true_eq, decide_eq_true_eq]
     omega
    rw [this, if_neg e]
    rfl) (by
   show f6_B2 m w 0 (w.length : Int) = _
   unfold f6_B2
   rw [decide_eq_false (by omega), cnd_false]) m 0 (by omega) (by omega)
  rw [show ((0 : Nat) : Int) = 0 from rfl] at this
  rw [this, List.drop_zero]
  cases hf : w.findSome? (fun x => if 1 ≤ x ∧ x ≤ 1114111 then none else some (⟨3, 0⟩ : S30)) with
  | none =>
   refine ⟨_, rfl, fun _ => ⟨h30, fun x hx => ?_⟩⟩
   rw [List.findSome?_eq_none_iff] at hf
   have := hf x hx
   by_cases e : 1 ≤ x ∧ x ≤ 1114111
   ·exact e
   ·simp only [if_neg e] at this; cases this
  | some r =>
   refine ⟨r, rfl, fun h0 => ?_⟩
   obtain ⟨x, hx, e⟩ := List.exists_of_findSome?_eq_some hf
   by_cases e2 : 1 ≤ x ∧ x ≤ 1114111
   ·rw [if_pos e2] at e; cases e
   ·rw [if_neg e2] at e; cases e; exact absurd h0 (by decide)
 ·rw [decide_eq_true (show ((w.length : Int) > 30) by omega), cnd_true]
  exact ⟨⟨2, 0⟩, rfl, fun h => absurd h (by show (2 : Int) ≠ 0; decide)⟩
theorem f27_ok (m : Nat) {l : List Int} (hl : l.length < m) (hm : m < 1000000000) : f27 m l = some (decide (∀ x ∈ l, 1 ≤ x ∧ x ≤ 1114111)) := by
 unfold f27
 have := iter_unit l (fun (y : Int) => f27_B2 m l y) (fun x => if 1 ≤ x ∧ x ≤ 1114111 then none else some false) (by omega) (fun i x hx => by
  show f27_B2 m l (i : Int) = _
  have hi := lt_of_getElem? hx
  unfold f27_B2 f27_r1
  rw [decide_eq_true (show (i : Int) < (l.length : Int) by omega), cnd_true, idx_nat, hx, bnd_some']
  by_cases e : 1 ≤ x ∧ x ≤ 1114111
  ·rw [decide_eq_false (show ¬ x < 1 by omega), decide_eq_false (show ¬ x > 1114111 by omega), if_pos e]
   rfl
  ·have : (decide (x < 1) || decide (x > 1114111)) = true := by
    rw [Bool.or_eq_true, decide_eq_true_eq, decide_eq_true_eq]
    omega
   rw [this, if_neg e]
   rfl) (by
  show f27_B2 m l (l.length : Int) = _
  unfold f27_B2
  rw [decide_eq_false (by omega), cnd_false]) m 0 (by omega) (by omega)
 rw [show ((0 : Nat) : Int) = 0 from rfl] at this
 rw [this, List.drop_zero]
 cases hf : l.findSome? (fun x => if 1 ≤ x ∧ x ≤ 1114111 then none else some false) with
 | none =>
  rw [List.findSome?_eq_none_iff] at hf
  rw [decide_eq_true (fun x hx => by
   have := hf x hx
   by_cases e : 1 ≤ x ∧ x ≤ 1114111
   ·exact e
   ·rw [if_neg e] at this; cases this)]
  rfl
 | some r =>
  obtain ⟨x, hx, e⟩ := List.exists_of_findSome?_eq_some hf
  have hx2 : ¬ (1 ≤ x ∧ x ≤ 1114111) := fun h => by rw [if_pos h] at e; cases e
  rw [if_neg hx2] at e
  cases e
  rw [decide_eq_false (fun h => hx2 (h x hx))]
  rfl
def LabOk (l : List Int) : Prop := ∀ x ∈ l, 1 ≤ x ∧ x ≤ 1114111
structure ROk (R : S23) : Prop where
 f1 : 1 ≤ R.fFrom.length
 f3 : R.fFrom.length ≤ 3
 t3 : R.fTo.length ≤ 3
 l3 : R.fLeft.length ≤ 3
 r3 : R.fRight.length ≤ 3
 fl : LabOk R.fFrom
 tl : LabOk R.fTo
 ll : LabOk R.fLeft
 rl : LabOk R.fRight
theorem f12_ok (m : Nat) (hm : 10 ≤ m) (hm2 : m < 1000000000) (R : S23) : ∃ e, f12 m R = some e ∧ (e = 0 → ROk R) := by
 unfold f12 f12_r7 f12_r6 f12_r5 f12_r4
 by_cases hl : 1 ≤ R.fFrom.length ∧ R.fFrom.length ≤ 3 ∧ R.fTo.length ≤ 3 ∧ R.fLeft.length ≤ 3 ∧ R.fRight.length ≤ 3
 ·obtain ⟨h1, h2, h3, h4, h5⟩ := hl
  rw [decide_eq_false (show ¬ (R.fFrom.length : Int) < 1 by omega), decide_eq_false (show ¬ (R.fFrom.length : Int) > 3 by omega), decide_eq_false (show ¬ (R.fTo.length : Int) > 3 by omega), decide_eq_false (show ¬ (R.fLeft.length : Int) > 3 by omega), decide_eq_false (show ¬ (R.fRight.length : Int) > 3 by omega)]
  simp only [Bool.or_self, cnd_false]
  unfold f12_r3 f12_r2 f12_r1
  rw [f27_ok m (show R.fFrom.length < m by omega) hm2, f27_ok m (show R.fTo.length < m by omega) hm2, f27_ok m (show R.fLeft.length < m by omega) hm2, f27_ok m (show R.fRight.length < m by omega) hm2]
  simp only [bnd_some']
  by_cases g1 : ∀ x ∈ R.fFrom, 1 ≤ x ∧ x ≤ 1114111
  ·by_cases g2 : ∀ x ∈ R.fTo, 1 ≤ x ∧ x ≤ 1114111
   ·by_cases g3 : ∀ x ∈ R.fLeft, 1 ≤ x ∧ x ≤ 1114111
    ·by_cases g4 : ∀ x ∈ R.fRight, 1 ≤ x ∧ x ≤ 1114111
     ·exact ⟨0, by rw [decide_eq_true g1, decide_eq_true g2, decide_eq_true g3, decide_eq_true g4]; rfl, fun _ => ⟨h1, h2, h3, h4, h5, g1, g2, g3, g4⟩⟩
     ·exact ⟨3, by rw [decide_eq_true g1, decide_eq_true g2, decide_eq_true g3, decide_eq_false g4]; rfl, fun h => absurd h (by decide)⟩
    ·exact ⟨3, by rw [decide_eq_true g1, decide_eq_true g2, decide_eq_false g3]; rfl, fun h => absurd h (by decide)⟩
   ·exact ⟨3, by rw [decide_eq_true g1, decide_eq_false g2]; rfl, fun h => absurd h (by decide)⟩
  ·exact ⟨3, by rw [decide_eq_false g1]; rfl, fun h => absurd h (by decide)⟩
 ·have : (((((decide ((R.fFrom.length : Int) < 1)) || (decide ((R.fFrom.length : Int) > 3))) || (decide ((R.fTo.length : Int) > 3))) || (decide ((R.fLeft.length : Int) > 3))) || (decide ((R.fRight.length : Int) > 3))) = true := by
   simp only [Bool.or_eq_true, decide_eq_true_eq]
   omega
  rw [this, cnd_true]
  exact ⟨9, rfl, fun h => absurd h (by decide)⟩
end Go.Abs.Qg
namespace Go.Abs.Qh
open Go.Sort Go.Abs Go.Abs.Qa Go.Abs.Qb Go.Abs.Qc Go.Abs.Qd Go.Abs.Qe Go.Abs.Qf Go.Abs.Qg Go.Abs.Yb Go.Abs.Yc Go.Abs.Yf Go.Abs.Yg Go.Abs.Yh Go.Abs.Yi Go.Abs.Yk
set_option linter.unusedVariables false
theorem f28_ok (m : Nat) (hm : 10 ≤ m) {a b c : List Int} (ha : a.length ≤ 3) (hb : b.length ≤ 3) (hc : c.length ≤ 3) : f28 m [a, b, c] = some (a ++ b ++ c) := by
 obtain ⟨k, rfl⟩ : ∃ k, m = k + 4 := ⟨m - 4, by omega⟩
 have w : ∀ n : Nat, n ≤ 100 → w64 ((n : Int)) = n := fun n hn => w64_id ⟨by omega, by omega⟩
 have l1 : iter (fun (y : Int × Int) => f28_B1 (k + 4) [a, b, c] y.1 y.2) (k + 4) (0, 0) = some (.inr (((a.length + b.length + c.length : Nat) : Int), 3)) := by
  have st : ∀ (i : Nat) (s : Nat) (x : List Int), [a, b, c][i]? = some x → s ≤ 10 → f28_B1 (k + 4) [a, b, c] (s : Int) (i : Int) = some (.nxt (((s + x.length : Nat) : Int), ((i + 1 : Nat) : Int))) := fun i s x hx hs => by
   have hi := lt_of_getElem? hx
   have hi3 : i < 3 := hi
   have hxl : x.length ≤ 3 := by
    have := List.mem_of_getElem? hx
    simp only [List.mem_cons, List.not_mem_nil, or_false] at this
    rcases this with rfl | rfl | rfl <;> assumption
   unfold f28_B1
   rw [decide_eq_true (show (i : Int) < (([a, b, c]).length : Int) by show (i : Int) < 3; omega), cnd_true, idx_nat, hx, bnd_some']
   rw [show w64 ((s : Int) + (x.length : Int)) = ((s + x.length : Nat) : Int) by rw [w64_id ⟨by omega, by omega⟩]; omega, decide_eq_false (by omega), cnd_false, show w64 ((i : Int) + 1) = ((i + 1 : Nat) : Int) by rw [w64_id ⟨by omega, by omega⟩]; omega]
  rw [iter_nxt (a' := (((0 + a.length : Nat) : Int), ((0 + 1 : Nat) : Int))) (st 0 0 a rfl (by omega)), iter_nxt (a' := (((0 + a.length + b.length : Nat) : Int), ((0 + 1 + 1 : Nat) : Int))) (st (0 + 1) (0 + a.length) b rfl (by omega)), iter_nxt (a' := (((0 + a.length + b.length + c.length : Nat) : Int), ((0 + 1 + 1 + 1 : Nat) : Int))) (st (0 + 1 + 1) (0 + a.length + b.length) c rfl (by omega))]
  rw [Nat.zero_add]
  exact iter_brk rfl
 have l2 : iter (fun (y : List Int × Int) => f28_B2 (k + 4) [a, b, c] y.1 y.2) (k + 4) ([], 0) = some (.inr (a ++ b ++ c, 3)) := by
  have st : ∀ (i : Nat) (s : List Int) (x : List Int), [a, b, c][i]? = some x → s.length ≤ 10 → f28_B2 (k + 4) [a, b, c] s (i : Int) = some (.nxt (s ++ x, ((i + 1 : Nat) : Int))) := fun i s x hx hs => by
   have hi := lt_of_getElem? hx
   have hi3 : i < 3 := hi
   have hxl : x.length ≤ 3 := by
    have := List.mem_of_getElem? hx
    simp only [List.mem_cons, List.not_mem_nil, or_false] at this
    rcases this with rfl | rfl | rfl <;> assumption
   unfold f28_B2
   rw [decide_eq_true (show (i : Int) < (([a, b, c]).length : Int) by show (i : Int) < 3; omega), cnd_true, idx_nat, hx, bnd_some', app8 _ _ (by omega), bnd_some', show w64 ((i : Int) + 1) = ((i + 1 : Nat) : Int) by rw [w64_id ⟨by omega, by omega⟩]; omega]
  rw [iter_nxt (a' := ([] ++ a, ((0 + 1 : Nat) : Int))) (st 0 [] a rfl (by simp)), iter_nxt (a' := ([] ++ a ++ b, ((0 + 1 + 1 : Nat) : Int))) (st (0 + 1) ([] ++ a) b rfl (by simp; omega)), iter_nxt (a' := ([] ++ a ++ b ++ c, ((0 + 1 + 1 + 1 : Nat) : Int))) (st (0 + 1 + 1) ([] ++ a ++ b) c rfl (by simp; omega))]
  rw [List.nil_append]
  exact iter_brk rfl
 unfold f28
 rw [l1, brk_inr]
 have hg : grw 8 (((a.length + b.length + c.length : Nat) : Int)) = some () := by
  unfold grw
  rw [if_pos ⟨by omega, by omega, by omega⟩]
 show bnd (grw 8 (((a.length + b.length + c.length : Nat) : Int))) _ = _
 rw [hg, bnd_some', l2, brk_inr]
theorem beg_ok (m : Nat) (hm : 10 ≤ m) {R : S23} (hR : ROk R) : ∃ bk, begM m R = some (R.fLeft ++ R.fFrom ++ R.fRight, bk) ∧ BOk ⟨R, R.fLeft ++ R.fFrom ++ R.fRight, bk⟩ := by
 have h1 := hR.f1
 have h2 := hR.f3
 have h3 := hR.l3
 have h4 := hR.r3
 have hl : (R.fLeft ++ R.fFrom ++ R.fRight).length = R.fLeft.length + R.fFrom.length + R.fRight.length := by simp [Nat.add_assoc]
 unfold begM
 rw [f28_ok m hm h3 h2 h4]
 dsimp only
 rw [if_pos (by omega)]
 obtain ⟨bk, e, hb⟩ := bkN_ok (w := R.fLeft ++ R.fFrom ++ R.fRight) (by omega) 199999 1 (List.replicate ((R.fLeft ++ R.fFrom ++ R.fRight).length + 1) 0) (Nat.le_refl _) (by omega) (by omega) (Bk.init _)
 have e' : bkN (R.fLeft ++ R.fFrom ++ R.fRight) 200000 2 (List.replicate ((R.fLeft ++ R.fFrom ++ R.fRight).length + 1) 0) = some bk := e
 rw [e']
 exact ⟨bk, rfl, hb, hl, h1, by show (R.fLeft ++ R.fFrom ++ R.fRight).length ≤ 9; omega⟩
theorem decS_nat (e : Nat) (he : e < 4294967296) : decS (e58 ⟨(e : Int), 0⟩) = some ⟨e, he⟩ := by
 have : decS (.agg [.int .i64 (e : Int), .int .i64 0]) = some ⟨e, he⟩ := by
  unfold decS
  split
  ·rename_i a heq
   cases heq
   rw [dif_pos ⟨by omega, by omega⟩]
   congr 1
  ·rename_i h
   exact absurd rfl (h e)
 exact this
theorem finS_ok : ∀ (F : List S58), (∀ f ∈ F, ∃ e : Nat, f = ⟨(e : Int), 0⟩ ∧ e < 4294967296) → ∃ ss, finS F = some ss ∧ (ss.map fun x => (⟨(x.val : Int), 0⟩ : S58)) = F
 | [], _ => ⟨[], rfl, rfl⟩
 | f :: F, h => by
  obtain ⟨e, rfl, he⟩ := h f (List.mem_cons_self ..)
  obtain ⟨ss, h1, h2⟩ := finS_ok F fun g hg => h g (List.mem_cons_of_mem _ hg)
  refine ⟨⟨e, he⟩ :: ss, ?_, by rw [List.map_cons, h2]⟩
  have hd : decS (e58 ⟨(e : Int), 0⟩) = some ⟨e, he⟩ := decS_nat e he
  unfold finS at h1 ⊢
  rw [List.map_cons, allM, hd, h1]
structure Made (R : S23) (al : List Int) (o : S28) : Prop where
 ex : ∃ (K S : Nat) (W : List Int) (A : List S53) (F : List S58) (ol : List Int) (dn : List (Int × Int)) (ss : List FS),
  o = ⟨(S : Int), srtC cmpA A, (srtC cfS ss).map fun x => ⟨(x.val : Int), 0⟩⟩ ∧ (ss.map fun x => (⟨(x.val : Int), 0⟩ : S58)) = F ∧ 0 < K ∧ K ≤ 100 ∧ MI al ol K dn W A S ∧ FI K W A S K F ∧ (∀ y ∈ ol, 0 ≤ y ∧ y ≤ 1114111) ∧ ∀ (i : Nat) (x : Int), i < K → x ∈ al → ((i : Int), x) ∈ dn
theorem build_ok (m : Nat) (hm : 40 ≤ m) (hm2 : m < 1000000) {R : S23} (hR : ROk R) {al : List Int} (hal : LabOk al) (haln : al.Nodup) (hal3 : al.length ≤ 300) : ∃ o, buildM m R al = some o ∧ Made R al o := by
 obtain ⟨bk, e1, hb⟩ := beg_ok m (by omega) hR
 have hal0 : ∀ x ∈ al, x ≠ 0 := fun x hx => by have := hal x hx; omega
 obtain ⟨L, M, e2, hP⟩ := f16_ok m (by omega) hb hR.t3 (al := al) (by omega)
 obtain ⟨W, A, F, S, s, e3, e4, hM, hF, hA, hS⟩ := arcs_ok m hm hm2 hb hal0 haln hal3 hP
 have hFl := hF.len
 have h100 := hP.l100
 obtain ⟨ss, e5, e6⟩ := finS_ok F fun f hf => by
  obtain ⟨i, hi, e⟩ := List.getElem_of_mem hf
  obtain ⟨x, a1, a2, _, _⟩ := hF.f i (by omega)
  rw [List.getElem?_eq_getElem hi, e] at a1
  exact ⟨x, Option.some.inj a1, by omega⟩
 refine ⟨⟨(S : Int), srtC cmpA A, (srtC cfS ss).map fun x => ⟨(x.val : Int), 0⟩⟩, ?_, ⟨L.length, S, W, A, F, olB ⟨R, R.fLeft ++ R.fFrom ++ R.fRight, bk⟩ al, M.map keyM, ss, rfl, e6, hP.ne, h100, hM, hF, fun y hy => ?_, fun i x hi hx => ?_⟩⟩
 ·unfold buildM
  rw [e1]
  dsimp only
  rw [e2]
  dsimp only
  unfold f15
  rw [if_pos ⟨fun h => by have := hP.ne; rw [h] at this; simp at this, by omega, by rw [hP.len]; exact Nat.lt_of_le_of_lt (Nat.mul_le_mul h100 hal3) (by decide)⟩, e3]
  dsimp only
  rw [e4]
  dsimp only
  rw [if_pos ⟨by omega, by omega⟩, e5]
 ·rw [mem_olB] at hy
  have hw : LabOk (R.fLeft ++ R.fFrom ++ R.fRight) := fun z hz => by
   rw [List.mem_append, List.mem_append] at hz
   rcases hz with (h | h) | h
   ·exact hR.ll z h
   ·exact hR.fl z h
   ·exact hR.rl z h
  rcases hy with h | h | h
  ·have := hal y h; omega
  ·have := hR.tl y h; omega
  ·have := hw y h; omega
 ·obtain ⟨v, hv, a1, a2⟩ := hP.reads hi hx
  rw [List.mem_map]
  exact ⟨v, hv, by unfold keyM; rw [a1, a2]⟩
theorem alM_ok (al : List Int) : ∀ (K i : Nat), i + K = al.length → (alM al K i = none ∧ (∀ j, i ≤ j → ∀ x, al[j]? = some x → (1 ≤ x ∧ x ≤ 1114111) ∧ ∀ y, 0 < j → al[j - 1]? = some y → y < x)) ∨ ∃ f, alM al K i = some f ∧ f.fCode ≠ 0
 | 0, i, h => .inl ⟨rfl, fun j hj x hx => by have := lt_of_getElem? hx; omega⟩
 | K + 1, i, h => by
  have hi : i < al.length := by omega
  unfold alM
  rw [List.getElem?_eq_getElem hi]
  dsimp only
  by_cases c1 : al[i] < 1 ∨ al[i] > 1114111
  ·rw [if_pos c1]; exact .inr ⟨_, rfl, by show (3 : Int) ≠ 0; decide⟩
  ·rw [if_neg c1]
   by_cases c2 : 0 < i ∧ (al[i - 1]?).any (fun y => decide (y ≥ al[i])) = true
   ·rw [if_pos c2]; exact .inr ⟨_, rfl, by show (13 : Int) ≠ 0; decide⟩
   ·rw [if_neg c2]
    rcases alM_ok al K (i + 1) (by omega) with ⟨e, g⟩ | ⟨f, e, g⟩
    ·refine .inl ⟨e, fun j hj x hx => ?_⟩
     by_cases hji : j = i
     ·subst hji
      rw [List.getElem?_eq_getElem hi] at hx
      have hx := Option.some.inj hx
      subst hx
      refine ⟨by omega, fun y h0 hy => ?_⟩
      rw [hy] at c2
      simp only [Option.any_some, decide_eq_true_eq] at c2
      have : ¬ y ≥ al[j] := fun h => c2 ⟨h0, h⟩
      omega
     ·exact g j (by omega) x hx
    ·exact .inr ⟨f, e, g⟩
theorem asc_pair {al : List Int} (h : ∀ j, ∀ x, al[j]? = some x → ∀ y, 0 < j → al[j - 1]? = some y → y < x) : al.Pairwise (· < ·) := by
 rw [List.pairwise_iff_getElem]
 intro i j hi hj hij
 induction j with
 | zero => omega
 | succ j ih =>
  have hs := h (j + 1) al[j + 1] (List.getElem?_eq_getElem hj) al[j] (by omega) (by rw [Nat.add_sub_cancel]; exact List.getElem?_eq_getElem (by omega))
  by_cases e : i = j
  ·subst e; exact hs
  ·have := ih (by omega) (by omega); omega
theorem comp_ok (m : Nat) (hm : 40 ≤ m) (hm2 : m < 1000000) (R : S23) (al : List Int) : ∃ o f, Yk.f5 m R al = some (o, f) ∧ (f.fCode = 0 → f = ⟨0, 0⟩ ∧ LabOk al ∧ al.length ≤ 300 ∧ Made R al o ∧ o.fStates ≤ 400 ∧ o.fArcs.length ≤ 2000) := by
 obtain ⟨e, he, hR⟩ := f12_ok m (by omega) (by omega) R
 unfold Yk.f5
 rw [he]
 dsimp only
 by_cases h0 : e = 0
 ·rw [if_neg (by simp [h0])]
  have hR := hR h0
  by_cases h3 : (al.length : Int) > 300
  ·rw [if_pos h3]
   exact ⟨_, _, rfl, fun h => absurd h (by show (2 : Int) ≠ 0; decide)⟩
  ·rw [if_neg h3]
   rcases alM_ok al al.length 0 (by omega) with ⟨ea, g⟩ | ⟨f, ea, g⟩
   ·rw [ea]
    dsimp only
    have hlab : LabOk al := fun x hx => by
     obtain ⟨j, hj, e⟩ := List.getElem_of_mem hx
     exact (g j (by omega) x (by rw [List.getElem?_eq_getElem hj, e])).1
    have hnd : al.Nodup := (asc_pair fun j x hx => (g j (by omega) x hx).2).imp fun h => by omega
    obtain ⟨o, eo, hMade⟩ := build_ok m hm hm2 hR hlab hnd (by omega)
    rw [eo, Option.map_some]
    unfold limM
    by_cases hl : o.fStates > 400 ∨ (o.fArcs.length : Int) > 2000
    ·rw [if_pos hl]
     exact ⟨_, _, rfl, fun h => absurd h (by show (17 : Int) ≠ 0; decide)⟩
    ·rw [if_neg hl]
     exact ⟨_, _, rfl, fun _ => ⟨rfl, hlab, by omega, hMade, by omega, by omega⟩⟩
   ·rw [ea]
    exact ⟨_, _, rfl, fun h => absurd h g⟩
 ·rw [if_pos h0]
  exact ⟨_, _, rfl, fun h => absurd h h0⟩
end Go.Abs.Qh
namespace Go.Abs.Qi
open Go.Sort Go.Abs Go.Abs.Qa Go.Abs.Qb Go.Abs.Qc Go.Abs.Qd Go.Abs.Qe Go.Abs.Qf Go.Abs.Qg Go.Abs.Qh Go.Abs.Yb Go.Abs.Yc Go.Abs.Yf Go.Abs.Yg Go.Abs.Yh Go.Abs.Yi Go.Abs.Yk
set_option linter.unusedVariables false
theorem idx_get {α : Type} (l : List α) (j : Nat) : idx l (j : Int) = l[j]? := idx_nat l j
theorem f42_eq (m : Nat) (x lo hi : Int) (h : lo ≤ x ∧ x ≤ hi) : f42 m x lo hi = some true := by
 unfold f42 f42_r1
 rw [decide_eq_true (by omega : x ≥ lo), decide_eq_true (by omega : x ≤ hi)]; rfl
theorem scan_unit {α R : Type} : ∀ (l : List α) (i : Int), scan (R := R) (fun _ (_ : Unit) (_ : α) => some (.inr ())) i () l = some (.inr ())
 | [], i => rfl
 | x :: r, i => by simp only [scan]; exact scan_unit r (i + 1)
structure ArcOk (N : Int) (a : S53) : Prop where
 from' : 0 ≤ a.fFrom ∧ a.fFrom ≤ N - 1
 to' : 0 ≤ a.fTo ∧ a.fTo ≤ N - 1
 in' : 0 ≤ a.fIn ∧ a.fIn ≤ 1114111
 out : 0 ≤ a.fOut ∧ a.fOut ≤ 1114111
 weight : 0 ≤ a.fWeight ∧ a.fWeight ≤ 1000000
theorem loopA22 (m : Nat) (M : S28) (hst : 1 ≤ M.fStates ∧ M.fStates ≤ 400) (hl : M.fArcs.length ≤ 2000) (ha : ∀ a ∈ M.fArcs, ArcOk M.fStates a) (ho : M.fArcs.Pairwise (fun a b => cmpA a b < 0)) (hm : 3000 ≤ m) :
  iter (fun (y : Int) => f22_B6 m M y) m 0 = some (.inr (M.fArcs.length : Int)) := by
 have hw : w64 (M.fStates - 1) = M.fStates - 1 := w64_id ⟨by omega, by omega⟩
 have e := iter_scan M.fArcs (fun (y : Int) => f22_B6 m M y) (fun (_ : Unit) (i : Int) => i) (fun (_ : Int) (_ : Unit) (_ : S53) => some (.inr ())) (fun s i hi => by
  show f22_B6 m M (i : Int) = _
  unfold f22_B6
  refine body_turn rfl fun a hx => ?_
  have hi := lt_of_getElem? hx
  obtain ⟨h1, h2, h3, h4, h5⟩ := ha a (List.mem_of_getElem? hx)
  have hw1 : w64 ((i : Int) + 1) = (i : Int) + 1 := w64_id ⟨by omega, by omega⟩
  rw [hw, f42_eq m _ _ _ h1, bnd_some', Bool.not_true, cnd_false, f42_eq m _ _ _ h2, bnd_some', bnd_some', Bool.not_true]
  unfold f22_r5
  rw [cnd_false, f42_eq m _ _ _ h3, bnd_some', bnd_some', Bool.not_true]
  unfold f22_r4
  rw [cnd_false, f42_eq m _ _ _ h4, bnd_some', bnd_some', Bool.not_true]
  unfold f22_r3
  rw [cnd_false, f42_eq m _ _ _ h5, bnd_some', bnd_some', Bool.not_true]
  unfold f22_r2
  rw [cnd_false]
  have hlast : (cnd (decide ((i : Int) > 0)) (bnd (idx M.fArcs (w64 ((i : Int) - 1))) fun v198 => bnd (f36 m v198 a) fun v199 => some (decide (v199 ≥ 0))) (some false)) = some false := by
   by_cases h0 : i = 0
   ·subst h0; rfl
   ·rw [decide_eq_true (by omega), cnd_true]
    have hw2 : w64 ((i : Int) - 1) = ((i - 1 : Nat) : Int) := by rw [w64_id ⟨by omega, by omega⟩]; omega
    have hlt : i - 1 < M.fArcs.length := by omega
    have hb : M.fArcs[i - 1]? = some (M.fArcs[i - 1]'hlt) := List.getElem?_eq_getElem hlt
    rw [hw2, idx_get, hb, bnd_some', f36_eq m _ _ (by omega), bnd_some']
    have hc := List.pairwise_iff_getElem.1 ho (i - 1) i hlt hi (by omega)
    have : M.fArcs[i]'hi = a := by rw [List.getElem?_eq_getElem hi] at hx; exact Option.some.inj hx
    rw [this] at hc
    rw [decide_eq_false (by omega)]
  rw [hlast, bnd_some']
  unfold f22_r1
  rw [cnd_false, hw1]) m 0 () (by omega) (by omega)
 rw [List.drop_zero, scan_unit] at e
 exact e
theorem loopF22 (m : Nat) (M : S28) (hst : 1 ≤ M.fStates ∧ M.fStates ≤ 400) (hl : M.fFinals.length ≤ 1000) (hal : M.fArcs.length ≤ 100000) (hf : ∀ f ∈ M.fFinals, (0 ≤ f.fState ∧ f.fState ≤ M.fStates - 1) ∧ f.fWeight = 0) (ho : M.fFinals.Pairwise (fun a b => a.fState < b.fState)) (hm : 3000 ≤ m) :
  iter (fun (y : Int) => f22_B9 m M y) m 0 = some (.inr (M.fFinals.length : Int)) := by
 have hw : w64 (M.fStates - 1) = M.fStates - 1 := w64_id ⟨by omega, by omega⟩
 have e := iter_scan M.fFinals (fun (y : Int) => f22_B9 m M y) (fun (_ : Unit) (i : Int) => i) (fun (_ : Int) (_ : Unit) (_ : S58) => some (.inr ())) (fun s i hi => by
  show f22_B9 m M (i : Int) = _
  unfold f22_B9
  refine body_turn rfl fun a hx => ?_
  have hi := lt_of_getElem? hx
  obtain ⟨h1, h2⟩ := hf a (List.mem_of_getElem? hx)
  have hw1 : w64 ((i : Int) + 1) = (i : Int) + 1 := w64_id ⟨by omega, by omega⟩
  rw [hw, f42_eq m _ _ _ h1, bnd_some', Bool.not_true, cnd_false, f42_eq m _ _ _ (by rw [h2]; omega), bnd_some', bnd_some', Bool.not_true]
  unfold f22_r8
  rw [cnd_false]
  have hlast : (cnd (decide ((i : Int) > 0)) (bnd (idx M.fFinals (w64 ((i : Int) - 1))) fun v306 => some (decide (v306.fState ≥ a.fState))) (some false)) = some false := by
   by_cases h0 : i = 0
   ·subst h0; rfl
   ·rw [decide_eq_true (by omega), cnd_true]
    have hw2 : w64 ((i : Int) - 1) = ((i - 1 : Nat) : Int) := by rw [w64_id ⟨by omega, by omega⟩]; omega
    have hlt : i - 1 < M.fFinals.length := by omega
    have hb : M.fFinals[i - 1]? = some (M.fFinals[i - 1]'hlt) := List.getElem?_eq_getElem hlt
    rw [hw2, idx_get, hb, bnd_some']
    have hc := List.pairwise_iff_getElem.1 ho (i - 1) i hlt hi (by omega)
    have : M.fFinals[i]'hi = a := by rw [List.getElem?_eq_getElem hi] at hx; exact Option.some.inj hx
    rw [this] at hc
    rw [decide_eq_false (by omega)]
  rw [hlast, bnd_some']
  unfold f22_r7
  rw [cnd_false, hw1]) m 0 () (by omega) (by omega)
 rw [List.drop_zero, scan_unit] at e
 exact e
theorem f22_ok (m : Nat) (M : S28) (hst : 1 ≤ M.fStates ∧ M.fStates ≤ 400) (hl : M.fArcs.length ≤ 2000) (ha : ∀ a ∈ M.fArcs, ArcOk M.fStates a) (ho : M.fArcs.Pairwise (fun a b => cmpA a b < 0)) (hfl : M.fFinals.length ≤ 1000) (hf : ∀ f ∈ M.fFinals, (0 ≤ f.fState ∧ f.fState ≤ M.fStates - 1) ∧ f.fWeight = 0) (hfo : M.fFinals.Pairwise (fun a b => a.fState < b.fState)) (hm : 3000 ≤ m) : f22 m M = some ⟨0, 0⟩ := by
 unfold f22
 rw [f42_eq m _ _ _ (by omega), bnd_some', Bool.not_true, cnd_false, decide_eq_false (by omega), cnd_false, loopA22 m M hst hl ha ho hm, brk_inr, loopF22 m M hst hfl (by omega) hf hfo hm, brk_inr]
theorem srtA_strict {A : List S53} (h : A.Nodup) : (srtC cmpA A).Pairwise (fun a b => cmpA a b < 0) := by
 have h1 := srtC_sorted toA A
 have h2 : (srtC cmpA A).Nodup := (srtC_perm (c := cmpA) A).nodup_iff.2 h
 have := h1.and h2
 refine this.imp fun {a b} ⟨g1, g2⟩ => ?_
 have g3 := TO.lt_false (c := cmpA) b a |>.1 g1
 have g4 : cmpA b a ≠ 0 := fun h0 => g2 ((toA.eq b a).1 h0).symm
 exact (toA.sw a b).2 (by omega)
theorem srtS_strict {ss : List FS} (h : ss.Nodup) : (srtC cfS ss).Pairwise (fun a b => a.val < b.val) := by
 have h1 := srtC_sorted toS ss
 have h2 : (srtC cfS ss).Nodup := (srtC_perm (c := cfS) ss).nodup_iff.2 h
 have := h1.and h2
 refine this.imp fun {a b} ⟨g1, g2⟩ => ?_
 have g3 := TO.lt_false (c := cfS) b a |>.1 g1
 have g4 : a.val ≠ b.val := fun h0 => g2 (Fin.ext h0)
 have g3 : (0 : Int) ≤ (b.val : Int) - (a.val : Int) := g3
 omega
theorem fin_nodup {al ol K dn W A S F} (h : MI al ol K dn W A S) (hF : FI K W A S K F) : F.Nodup := by
 rw [List.nodup_iff_pairwise_ne, List.pairwise_iff_getElem]
 intro i j hi hj hij e
 have hl := hF.len
 obtain ⟨x, a1, a2, a3, a4⟩ := hF.f i (by omega)
 obtain ⟨y, b1, b2, b3, b4⟩ := hF.f j (by omega)
 rw [List.getElem?_eq_getElem hi] at a1
 rw [List.getElem?_eq_getElem hj] at b1
 have a1 := Option.some.inj a1
 have b1 := Option.some.inj b1
 rw [e, b1] at a1
 have hxy : y = x := by have := congrArg S58.fState a1; dsimp only at this; omega
 subst hxy
 have wK : ∀ i, i < K → W[i]? = some (y : Int) → y ≠ 0 → K ≤ y := fun i hi hw h0 => by
  obtain ⟨w, c1, c2⟩ := h.wok i hi
  rw [hw] at c1
  have : w = y := by have := Option.some.inj c1; omega
  subst this
  exact (c2.resolve_left h0).1
 rcases a4 with a4 | ⟨a4, a5⟩
 ·rcases b4 with b4 | ⟨b4, b5⟩
  ·omega
  ·have := wK j (by omega) b4 b5; omega
 ·rcases b4 with b4 | ⟨b4, b5⟩
  ·have := wK i (by omega) a4 a5; omega
  ·have := h.inj i j (by omega) (by rw [a4, b4]) (by rw [a4]; intro e; have := Option.some.inj e; omega)
   omega
theorem made_valid (m : Nat) (hm : 3000 ≤ m) {R : S23} {al : List Int} {o : S28} (h : Made R al o) (hal : LabOk al) (hs : o.fStates ≤ 400) (ha : o.fArcs.length ≤ 2000) : f22 m o = some ⟨0, 0⟩ ∧ o.fFinals.length ≤ 100 ∧ 1 ≤ o.fStates := by
 obtain ⟨K, S, W, A, F, ol, dn, ss, rfl, hss, hK, h100, hM, hF, hol, hrd⟩ := h.ex
 have hks := hM.ks
 have hFl := hF.len
 have hsl : ss.length = F.length := by rw [← hss, List.length_map]
 have hpl : (srtC cfS ss).length = ss.length := (srtC_perm ss).length_eq
 have hA1 : A.Nodup := List.Pairwise.of_map Qe.keyA (fun a b hne e => hne (congrArg _ e)) hM.nod
 have hssn : ss.Nodup := by
  have hn := fin_nodup hM hF
  rw [← hss] at hn
  exact List.Pairwise.of_map _ (fun a b hne e => hne (by rw [e])) hn
 refine ⟨f22_ok m _ ⟨by show (1 : Int) ≤ (S : Int); omega, hs⟩ ha (fun a ha => ?_) (srtA_strict hA1) (by show ((srtC cfS ss).map _).length ≤ 1000; rw [List.length_map]; omega) (fun f hf => ?_) ?_ hm, by show ((srtC cfS ss).map _).length ≤ 100; rw [List.length_map]; omega, by show (1 : Int) ≤ (S : Int); omega⟩
 ·have := hM.arc a ((srtC_perm A).mem_iff.1 ha)
  obtain ⟨f, f1, f2⟩ := this.fr
  obtain ⟨t, t1, t2⟩ := this.to
  refine ⟨⟨by omega, by show a.fFrom ≤ (S : Int) - 1; omega⟩, ⟨by omega, by show a.fTo ≤ (S : Int) - 1; omega⟩, ?_, ?_, by rw [this.w]; omega⟩
  ·rcases this.i with g | g
   ·rw [g]; omega
   ·have := hal _ g; omega
  ·rcases this.o with g | g
   ·rw [g]; omega
   ·exact hol _ g
 ·obtain ⟨x, hx, rfl⟩ := List.mem_map.mp hf
  have hx : x ∈ ss := (srtC_perm ss).mem_iff.1 hx
  have : (⟨(x.val : Int), 0⟩ : S58) ∈ F := by rw [← hss]; exact List.mem_map.mpr ⟨x, hx, rfl⟩
  obtain ⟨i, hi, e⟩ := List.getElem_of_mem this
  obtain ⟨y, b1, b2, _, _⟩ := hF.f i (by omega)
  rw [List.getElem?_eq_getElem hi, e] at b1
  have b1 := congrArg S58.fState (Option.some.inj b1)
  dsimp only at b1
  exact ⟨⟨by show (0 : Int) ≤ (x.val : Int); omega, by show (x.val : Int) ≤ (S : Int) - 1; omega⟩, rfl⟩
 ·show ((srtC cfS ss).map _).Pairwise _
  rw [List.pairwise_map]
  exact (srtS_strict hssn).imp fun {a b} h => by show ((a.val : Nat) : Int) < ((b.val : Nat) : Int); omega
end Go.Abs.Qi
