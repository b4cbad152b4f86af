import Derived.Test.YtgbhimkbfaebeaaGreatDoorP7
import Derived.Test.YtgbhimkbfaebeaaGreatDoorP8
namespace Go.Abs
open Go.Sort Go.Proofs
set_option linter.unusedVariables false
set_option linter.unusedSimpArgs false
set_option linter.unnecessarySimpa false
set_option maxRecDepth 100000
theorem f19_eq (m : Nat) (s : ByteArray) (hm : 31 < m) : f19 m s = some (nameS s) := by
 unfold f19 f19_r8 nameS
 by_cases h : 1 ≤ s.size ∧ s.size ≤ 30
 ·have hb : ((((s.size : Int)) == 0) || (decide ((s.size : Int) > 30))) = false := by
   simp only [Bool.or_eq_false_iff, decide_eq_false_iff_not, beq_eq_false_iff_ne]
   omega
  have hl := byt_len s
  obtain ⟨c0, r, hc⟩ : ∃ c r, byt s = c :: r := by
   cases hq : byt s with
   | nil => rw [hq] at hl; simp at hl; omega
   | cons c r => exact ⟨c, r, rfl⟩
  have h0 : sidx s 0 = some c0 := by
   have := sidx_get s 0
   rw [hc] at this
   exact this
  rw [hb, decide_eq_true h, h0]
  simp only [cnd_false, bnd_some', f19_r7, Bool.true_and]
  have hfirst : ∀ b : Bool, allP (fun i c => letB c || (i != 0 && nameB c)) 0 (byt s) = (letB c0 && (byt s).all nameB) := by
   intro _
   have hn : letB c0 = true → nameB c0 = true := fun h => by unfold nameB; rw [h]; rfl
   have hrest : ∀ (l : List Int) (i : Int), 1 ≤ i → allP (fun i c => letB c || (i != 0 && nameB c)) i l = l.all nameB := by
    intro l
    induction l with
    | nil => intro i _; rfl
    | cons x l ih =>
     intro i hi
     have hi0 : (i != 0) = true := by simp; omega
     have hx : (letB x || nameB x) = nameB x := by unfold nameB; cases letB x <;> simp
     simp only [allP, List.all_cons, ih (i + 1) (by omega), hi0, Bool.true_and, hx]
   rw [hc]
   simp only [allP, List.all_cons]
   rw [hrest r (0 + 1) (by omega)]
   cases hq : letB c0 with
   | true => rw [hn hq]; simp
   | false => simp
  rw [hfirst true]
  by_cases h1 : c0 < 97
  ·have : letB c0 = false := by unfold letB; rw [decide_eq_false (by omega)]; rfl
   rw [decide_eq_true h1, this]
   rfl
  ·rw [decide_eq_false h1]
   simp only [cnd_false, h0, bnd_some', f19_r6]
   by_cases h2 : c0 > 122
   ·have : letB c0 = false := by unfold letB; rw [decide_eq_false (by omega : ¬ c0 ≤ 122), Bool.and_false]
    rw [decide_eq_true h2, this]
    rfl
   ·have hlet : letB c0 = true := by unfold letB; rw [decide_eq_true (by omega), decide_eq_true (by omega)]; rfl
    rw [decide_eq_false h2, hlet, cnd_false, Bool.true_and]
    have e : iter (fun (y : Int) => f19_B5 m s y) m 0 = landed (fun (_ : Unit) (i : Int) => i) (byt s).length (scan (fun _ (_ : Unit) c => if nameB c then some (.inr ()) else some (.inl false)) 0 () (byt s)) := by
     refine iter_scan (byt s) (fun (y : Int) => f19_B5 m s y) (fun (_ : Unit) (i : Int) => i) (fun _ (_ : Unit) c => if nameB c then some (.inr ()) else some (.inl false)) (fun u k hi => ?_) m 0 () (by omega) (by rw [byt_len]; omega)
     unfold f19_B5
     rw [← hl]
     refine body_turn' rfl fun c hcx => ?_
     have hw : w64 ((k : Int) + 1) = (k : Int) + 1 := w64_id ⟨by omega, by omega⟩
     rw [sidx_get, hcx]
     simp only [bnd_some', f19_r4, f19_r3, f19_r2, f19_r1, hw]
     have key : (((((decide (c ≥ 97)) && (decide (c ≤ 122))) || (((decide (c ≥ 48)) && (decide (c ≤ 57))))) || (c == 95)) || (c == 45)) = nameB c := rfl
     rw [key]
     cases nameB c <;> rfl
    rw [e, scan_all nameB]
    cases (byt s).all nameB <;> rfl
 ·have hb : ((((s.size : Int)) == 0) || (decide ((s.size : Int) > 30))) = true := by
   simp only [Bool.or_eq_true, decide_eq_true_eq, beq_iff_eq]
   omega
  rw [hb, decide_eq_false h]
  rfl
theorem f21_eq (m : Nat) (l : List ByteArray) (hm : 31 < m) : f21 m l 4 = some (tagsS l) := by
 unfold f21 tagsS
 by_cases hl : l.length > 4
 ·rw [if_pos hl, decide_eq_true (by omega)]; rfl
 ·rw [if_neg hl, decide_eq_false (by omega), cnd_false]
  have e : iter (fun (y : Int) => f21_B1 m l y) m 0 = landed (fun (_ : Unit) (i : Int) => i) l.length (scan (fun _ (_ : Unit) x => if nameS x then some (.inr ()) else some (.inl 10)) 0 () l) := by
   refine iter_scan l (fun (y : Int) => f21_B1 m l y) (fun (_ : Unit) (i : Int) => i) (fun _ (_ : Unit) x => if nameS x then some (.inr ()) else some (.inl 10)) (fun u k hi => ?_) m 0 () (by omega) (by omega)
   refine body_turn rfl fun x hx => ?_
   have hw : w64 ((k : Int) + 1) = (k : Int) + 1 := w64_id ⟨by omega, by omega⟩
   rw [f19_eq m x hm, hw]
   by_cases h : nameS x = true <;> simp [h]
  rw [e, scan_all nameS]
  by_cases h : l.all nameS = true
  ·rw [if_pos h, if_pos h]; rfl
  ·rw [if_neg h, if_neg h]; rfl
theorem f64_eq (m : Nat) (l : List Nat) (p w : Nat) (h : oneN l = some (p, w)) : f64 m (p : Int) = some (w : Int) := by
 obtain ⟨h1, h2, h3, h4, h5, h6, h7, h8⟩ := oneN_w h
 have hw : w = 1 ∨ w = 2 ∨ w = 3 ∨ w = 4 := by omega
 unfold f64
 rcases hw with rfl | rfl | rfl | rfl
 ·have := h5 rfl
  rw [decide_eq_true (by omega)]; rfl
 ·have := h6 rfl
  rw [decide_eq_false (by omega), decide_eq_true (by omega)]; rfl
 ·have := h7 rfl
  rw [decide_eq_false (by omega), decide_eq_false (by omega), decide_eq_true (by omega)]; rfl
 ·have := h8 rfl
  rw [decide_eq_false (by omega), decide_eq_false (by omega), decide_eq_false (by omega)]; rfl
theorem f63_loop (m : Nat) (s : ByteArray) (i n : Nat) (hn : i + n ≤ s.size) (hs : s.size ≤ 4000) : ∀ (d K k v : Nat), k + d = n → d < K → d ≤ 3 → v ≤ BB d →
  iter (fun (y : Int × Int) => f63_B2 m s (i : Int) (n : Int) y.1 y.2) K ((v : Int), (k : Int)) = match conts v ((bytN s).drop (i + k)) d with
   | some r => some (.inr ((r : Int), (n : Int)))
   | none => some (.inl (-1))
 | d, 0, k, v, h1, h2, h3, h4 => by omega
 | 0, K + 1, k, v, h1, h2, h3, h4 => by
  have hk : k = n := by omega
  subst hk
  have e0 : f63_B2 m s (i : Int) (k : Int) (v : Int) (k : Int) = some (.brk ((v : Int), (k : Int))) := by
   unfold f63_B2
   rw [decide_eq_false (by omega), cnd_false]
  unfold iter
  simp only [e0, conts]
 | d + 1, K + 1, k, v, h1, h2, h3, h4 => by
  have hlt : i + k < s.size := by omega
  have hl : i + k < (bytN s).length := by rw [bytN_len]; exact hlt
  have hb := bytN_lt s ((bytN s)[i + k]) (List.getElem_mem hl)
  have hw1 : w64 ((i : Int) + (k : Int)) = ((i + k : Nat) : Int) := by rw [w64_id ⟨by omega, by omega⟩]; omega
  have hw2 : w64 ((k : Int) + 1) = ((k + 1 : Nat) : Int) := by rw [w64_id ⟨by omega, by omega⟩]; omega
  have hx : sidx s ((i + k : Nat) : Int) = some (((bytN s)[i + k] : Nat) : Int) := by
   have := byt_get s (i + k) 0
   rw [Nat.add_zero] at this
   rw [this, List.getElem?_drop, Nat.add_zero, List.getElem?_eq_getElem hl]; rfl
  rw [List.drop_eq_getElem_cons hl]
  generalize (bytN s)[i + k] = b at *
  have hw3 : w64 (b : Int) = (b : Int) := w64_id ⟨by omega, by omega⟩
  have hB := BB_step d h3
  have hBl := BB_le d
  simp only [conts]
  by_cases hc : 128 ≤ b ∧ b ≤ 191
  ·have hw4 : w64 ((v : Int) * 64) = ((v * 64 : Nat) : Int) := by rw [w64_id ⟨by omega, by omega⟩]; omega
   have hw5 : w64 (((v * 64 : Nat) : Int) + (b : Int)) = ((v * 64 + b : Nat) : Int) := by rw [w64_id ⟨by omega, by omega⟩]; omega
   have hw6 : w64 (((v * 64 + b : Nat) : Int) - 128) = ((v * 64 + (b - 128) : Nat) : Int) := by rw [w64_id ⟨by omega, by omega⟩]; omega
   have e0 : f63_B2 m s (i : Int) (n : Int) (v : Int) (k : Int) = some (.nxt (((v * 64 + (b - 128) : Nat) : Int), ((k + 1 : Nat) : Int))) := by
    unfold f63_B2
    rw [decide_eq_true (by omega), cnd_true, hw1, hx]
    simp only [bnd_some', f63_r1, hw3, hw4, hw5, hw6, hw2]
    rw [decide_eq_false (by omega), decide_eq_false (by omega)]
    rfl
   have ih := f63_loop m s i n hn hs d K (k + 1) (v * 64 + (b - 128)) (by omega) (by omega) (by omega) (by omega)
   rw [if_pos hc]
   unfold iter
   simp only [e0]
   exact ih
  ·have e0 : f63_B2 m s (i : Int) (n : Int) (v : Int) (k : Int) = some (.ret (-1)) := by
    unfold f63_B2
    rw [decide_eq_true (by omega), cnd_true, hw1, hx]
    simp only [bnd_some', f63_r1, hw3]
    have : (decide ((b : Int) < 128) || decide ((b : Int) > 191)) = true := by
     simp only [Bool.or_eq_true, decide_eq_true_eq]; omega
    rw [this]
    rfl
   rw [if_neg hc]
   unfold iter
   simp only [e0]
theorem f63_j4_eq (m : Nat) (s : ByteArray) (i n v : Nat) (h1 : 1 ≤ n) (h4 : n ≤ 4) (hv : v ≤ BB (n - 1)) (hi : i < s.size) (hs : s.size ≤ 4000) (hm : 5 < m) :
  f63_j4 m s (i : Int) (n : Int) (v : Int) = some (if i + n ≤ s.size then fin n (conts v ((bytN s).drop (i + 1)) (n - 1)) else -1) := by
 unfold f63_j4
 have hw1 : w64 ((i : Int) + (n : Int)) = ((i + n : Nat) : Int) := by rw [w64_id ⟨by omega, by omega⟩]; omega
 rw [hw1]
 by_cases hn : i + n ≤ s.size
 ·rw [decide_eq_false (by omega), if_pos hn, cnd_false]
  have e := f63_loop m s i n hn hs (n - 1) m 1 v (by omega) (by omega) (by omega) hv
  have e : iter (fun (y : Int × Int) => f63_B2 m s (i : Int) (n : Int) y.1 y.2) m ((v : Int), 1) = _ := e
  rw [e]
  cases hc : conts v ((bytN s).drop (i + 1)) (n - 1) with
  | none => rfl
  | some r =>
   simp only [brk_inr, f91, f91_r2, f91_r1, bnd_some']
   have hsc : (((decide ((r : Int) ≥ 0)) && (decide ((r : Int) < 55296))) || ((decide ((r : Int) > 57343)) && (decide ((r : Int) ≤ 1114111)))) = decide (r < 55296 ∨ (57344 ≤ r ∧ r ≤ 1114111)) := by
    rw [Bool.eq_iff_iff]
    simp only [Bool.or_eq_true, Bool.and_eq_true, decide_eq_true_eq]
    omega
   have hwd : f64 m (r : Int) = some ((if r < 128 then 1 else if r < 2048 then 2 else if r < 65536 then 3 else 4 : Nat) : Int) := by
    unfold f64
    by_cases k1 : r < 128
    ·rw [decide_eq_true (by omega), if_pos k1]; rfl
    ·rw [decide_eq_false (by omega), if_neg k1]
     by_cases k2 : r < 2048
     ·rw [decide_eq_true (by omega), if_pos k2]; rfl
     ·rw [decide_eq_false (by omega), if_neg k2]
      by_cases k3 : r < 65536
      ·rw [decide_eq_true (by omega), if_pos k3]; rfl
      ·rw [decide_eq_false (by omega), if_neg k3]; rfl
   rw [hsc, hwd]
   simp only [fin]
   generalize (if r < 128 then 1 else if r < 2048 then 2 else if r < 65536 then 3 else 4 : Nat) = wd
   by_cases hq : r < 55296 ∨ (57344 ≤ r ∧ r ≤ 1114111)
   ·rw [decide_eq_true hq]
    simp only [Bool.not_true, cnd_false, bnd_some', f63_r3]
    by_cases hwn : wd = n
    ·subst hwn
     have hb : (((wd : Nat) : Int) != ((wd : Nat) : Int)) = false := by simp
     rw [hb, cnd_false, if_pos ⟨hq, rfl⟩]
    ·have hb : (((wd : Nat) : Int) != ((n : Nat) : Int)) = true := by simp only [bne_iff_ne, ne_eq]; omega
     rw [hb, cnd_true, if_neg (fun h => hwn h.2)]
   ·rw [decide_eq_false hq]
    simp only [Bool.not_false, cnd_true, bnd_some', f63_r3]
    rw [if_neg (fun h => hq h.1)]
 ·rw [decide_eq_true (by omega), if_neg hn]; rfl
theorem f63_eq (m : Nat) (s : ByteArray) (i : Nat) (hi : i < s.size) (hs : s.size ≤ 4000) (hm : 5 < m) : f63 m s (i : Int) = some (oneS ((bytN s).drop i)) := by
 have hl : i < (bytN s).length := by rw [bytN_len]; exact hi
 have hb := bytN_lt s ((bytN s)[i]) (List.getElem_mem hl)
 have hx : sidx s (i : Int) = some (((bytN s)[i] : Nat) : Int) := by
  have := byt_get s i 0
  rw [Nat.add_zero] at this
  rw [this, List.getElem?_drop, Nat.add_zero, List.getElem?_eq_getElem hl]; rfl
 have hd := List.drop_eq_getElem_cons hl
 have hrl : ((bytN s).drop (i + 1)).length = s.size - (i + 1) := by rw [List.length_drop, bytN_len]
 rw [hd]
 unfold f63
 rw [hx]
 generalize (bytN s)[i] = b at *
 have hw : w64 (b : Int) = (b : Int) := w64_id ⟨by omega, by omega⟩
 simp only [bnd_some', hw]
 by_cases k4 : 240 ≤ b
 ·rw [decide_eq_true (by omega), cnd_true]
  have hw4 : w64 ((b : Int) - 240) = ((b - 240 : Nat) : Int) := by rw [w64_id ⟨by omega, by omega⟩]; omega
  rw [hw4]
  refine (f63_j4_eq m s i 4 (b - 240) (by omega) (by omega) (by show b - 240 ≤ 100; omega) hi hs hm).trans ?_
  rw [← lead4 b ⟨k4, hb⟩, hrl]
  have : (i + 4 ≤ s.size) = (3 ≤ s.size - (i + 1)) := propext ⟨fun h => by omega, fun h => by omega⟩
  simp only [this]
 rw [decide_eq_false (by omega), cnd_false]
 by_cases k3 : 224 ≤ b
 ·rw [decide_eq_true (by omega), cnd_true]
  have hw4 : w64 ((b : Int) - 224) = ((b - 224 : Nat) : Int) := by rw [w64_id ⟨by omega, by omega⟩]; omega
  rw [hw4]
  refine (f63_j4_eq m s i 3 (b - 224) (by omega) (by omega) (by show b - 224 ≤ 6500; omega) hi hs hm).trans ?_
  rw [← lead3 b ⟨k3, by omega⟩, hrl]
  have : (i + 3 ≤ s.size) = (2 ≤ s.size - (i + 1)) := propext ⟨fun h => by omega, fun h => by omega⟩
  simp only [this]
 rw [decide_eq_false (by omega), cnd_false]
 by_cases k2 : 192 ≤ b
 ·rw [decide_eq_true (by omega), cnd_true]
  have hw4 : w64 ((b : Int) - 192) = ((b - 192 : Nat) : Int) := by rw [w64_id ⟨by omega, by omega⟩]; omega
  rw [hw4]
  refine (f63_j4_eq m s i 2 (b - 192) (by omega) (by omega) (by show b - 192 ≤ 420000; omega) hi hs hm).trans ?_
  rw [← lead2 b ⟨k2, by omega⟩, hrl]
  have : (i + 2 ≤ s.size) = (1 ≤ s.size - (i + 1)) := propext ⟨fun h => by omega, fun h => by omega⟩
  simp only [this]
 rw [decide_eq_false (by omega), cnd_false]
 by_cases k1 : 128 ≤ b
 ·rw [decide_eq_true (by omega), cnd_true]
  unfold oneS
  simp only [oneN]
  rw [if_neg (by omega), if_pos (by omega)]
 ·rw [decide_eq_false (by omega), cnd_false]
  refine (f63_j4_eq m s i 1 b (by omega) (by omega) (by show b ≤ 27000000; omega) hi hs hm).trans ?_
  rw [if_pos (by omega)]
  unfold oneS
  simp only [oneN, conts, fin, Nat.sub_self]
  rw [if_pos (by omega : b < 128), if_pos (by omega : b < 128), if_pos ⟨by omega, rfl⟩]
theorem f47_loop (m : Nat) (s : ByteArray) (hs : s.size ≤ 4000) (hm : 5 < m) : ∀ (K i : Nat) (acc : List Int), i ≤ s.size → s.size - i < K → acc.length ≤ i →
  (∀ L, ptsB ((bytN s).drop i) = some L → iter (fun (y : (List Int) × Int) => f47_B1 m s y.1 y.2) K (acc, (i : Int)) = some (.inr (acc ++ castL L, (s.size : Int)))) ∧
  (ptsB ((bytN s).drop i) = none → ∃ j, iter (fun (y : (List Int) × Int) => f47_B1 m s y.1 y.2) K (acc, (i : Int)) = some (.inl ([], ⟨5, j⟩)))
 | 0, i, acc, h1, h2, h3 => by omega
 | K + 1, i, acc, h1, h2, h3 => by
  by_cases hlt : i < s.size
  ·have hne : (bytN s).drop i ≠ [] := fun e => by have := List.drop_eq_nil_iff.1 e; rw [bytN_len] at this; omega
   have e0 : f47_B1 m s acc (i : Int) = cnd (decide (oneS ((bytN s).drop i) < 0)) (some (.ret ([], ⟨5, (i : Int)⟩))) (bnd (app 8 acc [oneS ((bytN s).drop i)]) fun v25 => bnd (f64 m (oneS ((bytN s).drop i))) fun v26 => some (.nxt (v25, w64 ((i : Int) + v26)))) := by
    unfold f47_B1
    rw [decide_eq_true (by omega), cnd_true, f63_eq m s i hlt hs hm]
    rfl
   cases hq : oneN ((bytN s).drop i) with
   | none =>
    have hm1 : oneS ((bytN s).drop i) = -1 := by unfold oneS; rw [hq]
    rw [hm1] at e0
    refine ⟨fun L hL => ?_, fun _ => ⟨(i : Int), ?_⟩⟩
    ·rw [ptsB_bad hne hq] at hL; cases hL
    ·unfold iter
     simp only [e0]
     rfl
   | some y =>
    obtain ⟨p, w⟩ := y
    have hp : oneS ((bytN s).drop i) = (p : Int) := by unfold oneS; rw [hq]
    rw [hp] at e0
    obtain ⟨g1, g2, g3, g4, g5, _⟩ := oneN_w hq
    rw [List.length_drop, bytN_len] at g3
    have hw2 : w64 ((i : Int) + (w : Int)) = ((i + w : Nat) : Int) := by rw [w64_id ⟨by omega, by omega⟩]; omega
    have e1 : f47_B1 m s acc (i : Int) = some (.nxt (acc ++ [(p : Int)], ((i + w : Nat) : Int))) := by
     rw [e0, decide_eq_false (by omega), cnd_false, app_some 8 acc [(p : Int)] (by simp only [List.length_cons, List.length_nil]; omega) (by simp only [List.length_cons, List.length_nil]; omega), f64_eq m _ p w hq]
     simp only [bnd_some', hw2]
    have ih := f47_loop m s hs hm K (i + w) (acc ++ [(p : Int)]) (by omega) (by omega) (by simp only [List.length_append, List.length_cons, List.length_nil]; omega)
    rw [ptsB_one hq, List.drop_drop]
    refine ⟨fun L hL => ?_, fun hn => ?_⟩
    ·obtain ⟨L', hL', rfl⟩ := Option.map_eq_some_iff.1 hL
     have := ih.1 L' hL'
     unfold iter
     simp only [e1]
     rw [this]
     simp [castL]
    ·obtain ⟨j, hj⟩ := ih.2 (by simpa using hn)
     refine ⟨j, ?_⟩
     unfold iter
     simp only [e1]
     exact hj
  ·have hi : i = s.size := by omega
   have hd : (bytN s).drop i = [] := List.drop_eq_nil_iff.2 (by rw [bytN_len]; omega)
   rw [hd]
   refine ⟨fun L hL => ?_, fun hn => by cases hn⟩
   rw [ptsB_nil] at hL
   cases hL
   unfold iter
   have e0 : f47_B1 m s acc (i : Int) = some (.brk (acc, (i : Int))) := by
    unfold f47_B1
    rw [decide_eq_false (by omega), cnd_false]
   simp only [e0]
   rw [hi]
   simp [castL]
theorem f47_eq (m : Nat) (s : ByteArray) (hm : 4001 < m) : (∀ L, s.size ≤ 4000 → ptsS s = some L → f47 m s = some (castL L, ⟨0, 0⟩)) ∧ ((¬ s.size ≤ 4000 ∨ ptsS s = none) → ∃ c j, c ≠ 0 ∧ f47 m s = some ([], ⟨c, j⟩)) := by
 by_cases hs : s.size ≤ 4000
 ·have h := f47_loop m s hs (by omega) m 0 [] (by omega) (by omega) (Nat.le_refl _)
  rw [List.drop_zero] at h
  have e0 : f47 m s = brk (iter (fun (y : (List Int) × Int) => f47_B1 m s y.1 y.2) m ([], ((0 : Nat) : Int))) some fun y49 => some ((y49.1, (⟨0, 0⟩ : S26))) := by
   unfold f47
   rw [decide_eq_false (by omega), cnd_false]
   rfl
  refine ⟨fun L _ hL => ?_, fun hn => ?_⟩
  ·rw [e0, h.1 L hL]; simp
  ·rcases hn with hn | hn
   ·exact (hn hs).elim
   ·obtain ⟨j, hj⟩ := h.2 hn
    exact ⟨5, j, by decide, by rw [e0, hj]; rfl⟩
 ·refine ⟨fun L h _ => (hs h).elim, fun _ => ⟨1, -1, by decide, ?_⟩⟩
  unfold f47
  rw [decide_eq_true (by omega)]
  rfl
theorem f33_inner (m : Nat) (p : Nat) (hm : 4001 < m) : iter (fun (y : Int) => f33_B1 m (p : Int) y) m 0 = if badL.all (fun y => !((p : Int) == y)) then some (.inr 10) else some (.inl false) := by
 have e : iter (fun (y : Int) => f33_B1 m (p : Int) y) m 0 = landed (fun (_ : Unit) (i : Int) => i) badL.length (scan (fun _ (_ : Unit) x => if !((p : Int) == x) then some (.inr ()) else some (.inl false)) 0 () badL) := by
  refine iter_scan badL (fun (y : Int) => f33_B1 m (p : Int) y) (fun (_ : Unit) (i : Int) => i) (fun _ (_ : Unit) x => if !((p : Int) == x) then some (.inr ()) else some (.inl false)) (fun u k hi => ?_) m 0 () (by omega) (by show 10 < m + 0; omega)
  have hk : k ≤ 10 := hi
  have hw : w64 ((k : Int) + 1) = (k : Int) + 1 := w64_id ⟨by omega, by omega⟩
  unfold f33_B1
  refine body_turn (xs := badL) rfl fun x hx => ?_
  rw [hw]
  cases (p : Int) == x <;> rfl
 rw [e, scan_all]
 cases badL.all (fun y => !((p : Int) == y)) <;> rfl
theorem f33_loop (m : Nat) (L : List Nat) (f : S26) (hL : L.length ≤ 4000) (hp : ∀ p ∈ L, p ≤ 1114111) (hm : 4001 < m) :
  iter (fun (y : Int) => f33_B2 m (castL L, f) y) m 0 = if L.all (fun p => !badP p) then some (.inr (L.length : Int)) else some (.inl false) := by
 have e : iter (fun (y : Int) => f33_B2 m (castL L, f) y) m 0 = landed (fun (_ : Unit) (i : Int) => i) (castL L).length (scan (fun _ (_ : Unit) x => if !badP x.toNat then some (.inr ()) else some (.inl false)) 0 () (castL L)) := by
  refine iter_scan (castL L) (fun (y : Int) => f33_B2 m (castL L, f) y) (fun (_ : Unit) (i : Int) => i) (fun _ (_ : Unit) x => if !badP x.toNat then some (.inr ()) else some (.inl false)) (fun u k hi => ?_) m 0 () (by omega) (by rw [castL_len]; omega)
  rw [castL_len] at hi
  refine body_turn rfl fun x hx => ?_
  obtain ⟨p, rfl, hmem⟩ := castL_get hx
  have hw : w64 ((k : Int) + 1) = (k : Int) + 1 := w64_id ⟨by omega, by omega⟩
  rw [f33_inner m p hm, badL_all, Int.toNat_natCast, hw]
  unfold badP
  cases [0, 9, 10, 32, 40, 41, 91, 93, 44, 59].contains p
  ·simp only [Bool.not_false, if_true, brk_inr, Bool.false_or]
   by_cases h : 983040 ≤ p
   ·rw [decide_eq_true (by omega : (p : Int) ≥ 983040), decide_eq_true h]; rfl
   ·rw [decide_eq_false (by omega : ¬ (p : Int) ≥ 983040), decide_eq_false h]; rfl
  ·rfl
 rw [e, scan_all, castL_all, castL_len]
 cases L.all (fun p => !badP p) <;> rfl
theorem f33_eq (m : Nat) (s : ByteArray) (hm : 4001 < m) : f33 m s = some (wordS s) := by
 obtain ⟨g1, g2⟩ := f47_eq m s hm
 unfold f33 wordS
 by_cases hs : s.size ≤ 4000
 ·cases hq : ptsS s with
  | some L =>
   have hl := ptsS_len hq
   rw [g1 L hs hq]
   simp only [bnd_some', f33_r4, f33_r3, castL_len, okP, beq_self_eq_true, Bool.true_and, Bool.not_true, Bool.false_or, decide_eq_true hs]
   by_cases hc : 1 ≤ L.length ∧ L.length ≤ 30
   ·have hb : (((L.length : Int) == 0) || decide ((L.length : Int) > 30)) = false := by
     simp only [Bool.or_eq_false_iff, decide_eq_false_iff_not, beq_eq_false_iff_ne, ne_eq]; omega
    rw [hb, cnd_false, f33_loop m L _ (by omega) hl.2.2 hm, decide_eq_true hc]
    cases L.all (fun p => !badP p) <;> rfl
   ·have hb : (((L.length : Int) == 0) || decide ((L.length : Int) > 30)) = true := by
     simp only [Bool.or_eq_true, decide_eq_true_eq, beq_iff_eq]; omega
    rw [hb, decide_eq_false hc]
    rfl
  | none =>
   obtain ⟨c, j, hc, e⟩ := g2 (.inr hq)
   rw [e]
   have hb : (c == 0) = false := by simpa using hc
   simp only [bnd_some', hb, Bool.false_and, Bool.not_false, Bool.true_or, f33_r4, f33_r3, cnd_true, Bool.and_false]
 ·obtain ⟨c, j, hc, e⟩ := g2 (.inl hs)
  rw [e]
  have hb : (c == 0) = false := by simpa using hc
  simp only [bnd_some', hb, Bool.false_and, Bool.not_false, Bool.true_or, f33_r4, f33_r3, cnd_true, decide_eq_false hs]
theorem f20_eq (m : Nat) (s : ByteArray) (hm : 4001 < m) : f20 m s = some (partS s) := by
 unfold f20 f20_r1 partS
 rw [tl_eq, f33_eq m s hm]
 cases decide (s = ⟨#[]⟩) <;> rfl
theorem f7_item (m : Nat) (a0 : S23) (i j : Nat) (x : S46) (hm : 4001 < m) (hi : i ≤ 1000) (hj : j ≤ 1000) (hn : a0.fClasses.length ≤ 1000) :
  (bnd (f20 m x.fBase) fun v460 => bnd (cnd (!v460) (some true) (bnd (f20 m x.fForm) fun v499 => some (!v499))) fun v468 => f7_r5 m a0 (i : Int) (j : Int) x v468) = if itemBad a0.fClasses.length x ≠ 0 then some (.ret (⟨itemBad a0.fClasses.length x, (i : Int)⟩ : S26)) else some (.nxt (w64 ((j : Int) + 1))) := by
 rw [f20_eq m _ hm, bnd_some', f20_eq m _ hm]
 unfold itemBad
 cases hb : partS x.fBase with
 | false => simp [f7_r5, f18]
 | true =>
  cases hf : partS x.fForm with
  | false => simp [f7_r5, f18]
  | true =>
   simp only [Bool.not_true, cnd_false, bnd_some', Bool.and_self, Bool.false_eq_true, if_false, f7_r5, f21_eq m x.fTags (by omega), tagsS]
   by_cases ht : x.fTags.length > 4
   ·simp [ht, f18]
   ·rw [if_neg ht, if_neg ht]
    cases ha : x.fTags.all nameS with
    | false => simp [f18]
    | true =>
     simp only [if_true, Bool.not_true, Bool.false_eq_true, if_false, bne_self_eq_false, cnd_false, f7_r4, f7_r3, f7_r2]
     have hc : ((((decide (x.fNext < -1) || decide (x.fNext ≥ (a0.fClasses.length : Int))) || decide (x.fWeight < 0)) || decide (x.fWeight > 1000000)) = true) ↔ (x.fNext < -1 ∨ (a0.fClasses.length : Int) ≤ x.fNext ∨ x.fWeight < 0 ∨ 1000000 < x.fWeight) := by
      simp only [Bool.or_eq_true, decide_eq_true_eq, or_assoc, ge_iff_le, gt_iff_lt]
     by_cases h : x.fNext < -1 ∨ (a0.fClasses.length : Int) ≤ x.fNext ∨ x.fWeight < 0 ∨ 1000000 < x.fWeight
     ·rw [hc.2 h, cnd_true, if_pos h]; simp [f18]
     ·have h' : (((decide (x.fNext < -1) || decide (x.fNext ≥ (a0.fClasses.length : Int))) || decide (x.fWeight < 0)) || decide (x.fWeight > 1000000)) = false := by
       rw [← Bool.not_eq_true, hc]; exact h
      rw [h', cnd_false, if_neg h]; simp
theorem f7_names (m : Nat) (a0 : S23) (i : Nat) (c : S44) (hi : i ≤ a0.fClasses.length) (hn : a0.fClasses.length ≤ 40) (hm : 4001 < m) :
  iter (fun (y : Int) => f7_B1 m a0 (i : Int) c y) m 0 = if (a0.fClasses.take i).any (fun d => decide (d.fName = c.fName)) then some (.inl (⟨7, (i : Int)⟩ : S26)) else some (.inr (i : Int)) := by
 have htl : (a0.fClasses.take i).length = i := by rw [List.length_take]; omega
 have e1 : iter (fun (y : Int) => f7_B1 m a0 (i : Int) c y) m 0 = landed (fun (_ : Unit) (i : Int) => i) (a0.fClasses.take i).length (scan (fun _ (_ : Unit) (d : S44) => if !(decide (d.fName = c.fName)) then some (.inr ()) else some (.inl (⟨7, (i : Int)⟩ : S26))) 0 () (a0.fClasses.take i)) := by
  refine iter_scan (a0.fClasses.take i) (fun (y : Int) => f7_B1 m a0 (i : Int) c y) (fun (_ : Unit) (i : Int) => i) _ (fun u k hk => ?_) m 0 () (by omega) (by omega)
  have hb : f7_B1 m a0 (i : Int) c (k : Int) = cnd (decide ((k : Int) < ((a0.fClasses.take i).length : Int))) (bnd (idx (a0.fClasses.take i) (k : Int)) fun v360 => cnd ((v360.fName.toList == c.fName.toList)) (bnd (f18 m 7 (i : Int)) fun v361 => some (.ret v361)) (some (.nxt (w64 ((k : Int) + 1))))) (some (.brk (k : Int))) := by
   unfold f7_B1
   rw [htl]
   by_cases hki : k < i
   ·rw [idx_get, idx_get, List.getElem?_take_of_lt hki]
   ·rw [decide_eq_false (by omega), cnd_false, cnd_false]
  rw [hb]
  refine body_turn rfl fun d hd => ?_
  have hw : w64 ((k : Int) + 1) = (k : Int) + 1 := w64_id ⟨by omega, by omega⟩
  rw [tl_eq]
  by_cases h : d.fName = c.fName
  ·simp [h, f18]
  ·simp [h, hw]
 rw [e1, scan_all (fun d : S44 => !(decide (d.fName = c.fName)))]
 cases hex : (a0.fClasses.take i).any (fun d => decide (d.fName = c.fName)) with
 | true =>
  have : ((a0.fClasses.take i).all fun d => !(decide (d.fName = c.fName))) = false := by
   rw [← Bool.not_eq_true, List.all_eq_true]
   intro h
   obtain ⟨d, hd, he⟩ := List.any_eq_true.1 hex
   have := h d hd
   rw [he] at this; cases this
  rw [this]
  simp [landed]
 | false =>
  have : ((a0.fClasses.take i).all fun d => !(decide (d.fName = c.fName))) = true := by
   rw [List.all_eq_true]
   intro d hd
   have := List.any_eq_false.1 hex d hd
   simpa using this
  rw [this, htl]
  simp [landed]
theorem f7_eq (m : Nat) (a0 : S23) (hm : 4001 < m) : f7 m a0 = some (lexF a0.fClasses) := by
 unfold f7 f7_r8 lexF
 by_cases h : a0.fClasses.length < 1 ∨ 40 < a0.fClasses.length
 ·have : (((a0.fClasses.length : Int) == 0) || decide ((a0.fClasses.length : Int) > 40)) = true := by
   simp only [Bool.or_eq_true, decide_eq_true_eq, beq_iff_eq]; omega
  rw [this, cnd_true, if_pos h]; rfl
 ·have : (((a0.fClasses.length : Int) == 0) || decide ((a0.fClasses.length : Int) > 40)) = false := by
   rw [← Bool.not_eq_true]; simp only [Bool.or_eq_true, decide_eq_true_eq, beq_iff_eq]; omega
  rw [this, cnd_false, if_neg h]
  have e : iter (fun (y : Int) => f7_B7 m a0 y) m 0 = landed (fun (_ : Unit) (i : Int) => i) a0.fClasses.length (scan (fun (i : Int) (_ : Unit) (c : S44) => if classBad a0.fClasses i.toNat c ≠ 0 then some (.inl (⟨classBad a0.fClasses i.toNat c, i⟩ : S26)) else some (.inr ())) 0 () a0.fClasses) := by
   refine iter_scan a0.fClasses (fun (y : Int) => f7_B7 m a0 y) (fun (_ : Unit) (i : Int) => i) _ (fun u k hk => ?_) m 0 () (by omega) (by omega)
   unfold f7_B7
   refine body_turn rfl fun c hc => ?_
   have hkl := lt_of_getElem? hc
   have hw : w64 ((k : Int) + 1) = (k : Int) + 1 := w64_id ⟨by omega, by omega⟩
   rw [f19_eq m _ (by omega), bnd_some', Int.toNat_natCast, hw]
   unfold classBad
   cases hnm : nameS c.fName with
   | false => simp [f18]
   | true =>
    simp only [Bool.not_true, cnd_false, Bool.false_eq_true, if_false]
    rw [f7_names m a0 k c hk (by omega) hm]
    cases hex : (a0.fClasses.take k).any (fun d => decide (d.fName = c.fName)) with
    | true => simp
    | false =>
     simp only [Bool.false_eq_true, if_false, brk_inr]
     by_cases hl : c.fItems.length > 100
     ·rw [decide_eq_true (by omega), cnd_true, if_pos hl]; simp [f18]
     ·rw [decide_eq_false (by omega), cnd_false, if_neg hl]
      have e2 : iter (fun (y : Int) => f7_B6 m a0 (k : Int) c y) m 0 = landed (fun (_ : Unit) (i : Int) => i) c.fItems.length (scan (fun _ (_ : Unit) (x : S46) => if itemBad a0.fClasses.length x ≠ 0 then some (.inl ((fun b => (⟨b, (k : Int)⟩ : S26)) (itemBad a0.fClasses.length x))) else some (.inr ())) 0 () c.fItems) := by
       refine iter_scan c.fItems (fun (y : Int) => f7_B6 m a0 (k : Int) c y) (fun (_ : Unit) (i : Int) => i) _ (fun u j hj => ?_) m 0 () (by omega) (by omega)
       unfold f7_B6
       refine body_turn rfl fun x hx => ?_
       have hwj : w64 ((j : Int) + 1) = (j : Int) + 1 := w64_id ⟨by omega, by omega⟩
       rw [f7_item m a0 k j x hm (by omega) (by omega) (by omega)]
       by_cases h : itemBad a0.fClasses.length x = 0
       ·simp [h, hwj]
       ·simp [h]
      rw [e2, scan_firstC (itemBad a0.fClasses.length) (fun b => (⟨b, (k : Int)⟩ : S26))]
      by_cases h : firstC (itemBad a0.fClasses.length) c.fItems = 0
      ·simp [h, landed]
      ·simp [h, landed]
  rw [e]
  have hsc := scan_lex a0.fClasses a0.fClasses 0
  rw [show ((0 : Nat) : Int) = 0 from rfl] at hsc
  rw [hsc]
  by_cases hz : (lexFrom a0.fClasses 0 a0.fClasses).fCode = 0
  ·rw [if_neg (by simp [hz]), (lexFrom_zero _ _ _ hz).1]; rfl
  ·rw [if_pos hz]; rfl
theorem iter_to {R A : Type} (B : A → Option (Stp R A)) (st : Nat → A) (a : A) : ∀ (m n i : Nat), (∀ j, i ≤ j → j < i + n → B (st j) = some (.nxt (st (j + 1)))) → B (st (i + n)) = some (.brk a) → n < m → iter B m (st i) = some (.inr a)
 | 0, n, i, _, _, h => by omega
 | m + 1, 0, i, _, hb, _ => by
  unfold iter
  rw [show B (st i) = some (.brk a) from hb]
 | m + 1, n + 1, i, hn, hb, h => by
  unfold iter
  rw [hn i (Nat.le_refl _) (by omega)]
  exact iter_to B st a m n (i + 1) (fun j h1 h2 => hn j (by omega) (by omega)) (by rw [show i + 1 + n = i + (n + 1) by omega]; exact hb) (by omega)
theorem iter_at {R A : Type} (B : A → Option (Stp R A)) (st : Nat → A) {a0 a : A} {m : Nat} (n : Nat) (h0 : a0 = st 0) (hn : ∀ j, j < n → B (st j) = some (.nxt (st (j + 1)))) (hb : B (st n) = some (.brk a)) (hm : n < m) : iter B m a0 = some (.inr a) := by
 subst h0
 exact iter_to B st a m n 0 (fun j _ h => hn j (by omega)) (by rw [Nat.zero_add]; exact hb) hm
theorem take_snoc {α : Type} {l : List α} {i : Nat} {x : α} (h : l[i]? = some x) : l.take (i + 1) = l.take i ++ [x] := by
 rw [List.take_add_one, h]; rfl
theorem w64_nat (n : Nat) (h : n ≤ 1000000000) : w64 ((n : Int) + 1) = ((n + 1 : Nat) : Int) := by
 rw [w64_id ⟨by omega, by omega⟩]; omega
def tagsI (xs : List S46) : List ByteArray := xs.flatMap (·.fTags)
def tagsC (l : List S44) : List ByteArray := l.flatMap fun c => tagsI c.fItems
def tagsL (l : List S44) : List ByteArray := compactS (sortS (tagsC l))
theorem itemBad_tags {n : Nat} {x : S46} (h : itemBad n x = 0) : x.fTags.length ≤ 4 := by
 unfold itemBad at h
 split at h
 ·simp at h
 ·split at h
  ·simp at h
  ·omega
theorem tagsI_len {n : Nat} : ∀ (xs : List S46), (∀ x ∈ xs, itemBad n x = 0) → (tagsI xs).length ≤ 4 * xs.length
 | [], _ => by simp [tagsI]
 | x :: r, h => by
  have h1 := itemBad_tags (h x List.mem_cons_self)
  have h2 := tagsI_len r fun y hy => h y (List.mem_cons_of_mem _ hy)
  simp only [tagsI, List.flatMap_cons, List.length_append, List.length_cons] at h2 ⊢
  omega
theorem tagsI_snoc (xs : List S46) (x : S46) : tagsI (xs ++ [x]) = tagsI xs ++ x.fTags := by simp [tagsI]
theorem tagsC_snoc (l : List S44) (c : S44) : tagsC (l ++ [c]) = tagsC l ++ tagsI c.fItems := by simp [tagsC]
theorem tagsC_len {n : Nat} : ∀ (l : List S44), (∀ c ∈ l, c.fItems.length ≤ 100) → (∀ c ∈ l, ∀ x ∈ c.fItems, itemBad n x = 0) → (tagsC l).length ≤ 400 * l.length
 | [], _, _ => by simp [tagsC]
 | c :: r, h1, h2 => by
  have g1 := tagsI_len c.fItems (h2 c List.mem_cons_self)
  have g2 := h1 c List.mem_cons_self
  have g3 := tagsC_len r (fun y hy => h1 y (List.mem_cons_of_mem _ hy)) fun y hy => h2 y (List.mem_cons_of_mem _ hy)
  simp only [tagsC, List.flatMap_cons, List.length_append, List.length_cons] at g3 ⊢
  omega
theorem mem_take {α : Type} {l : List α} {n : Nat} {x : α} (h : x ∈ l.take n) : x ∈ l := List.mem_of_mem_take h
theorem f22_items (m : Nat) (c : S44) (acc : List ByteArray) {n : Nat} (hc : c.fItems.length ≤ 100) (hx : ∀ x ∈ c.fItems, itemBad n x = 0) (ha : acc.length ≤ 100000) (hm : 4001 < m) :
  iter (fun (y : (List ByteArray) × Int) => f22_B1 m c y.1 y.2) m (acc, 0) = some (.inr (acc ++ tagsI c.fItems, (c.fItems.length : Int))) := by
 refine iter_at (fun (y : (List ByteArray) × Int) => f22_B1 m c y.1 y.2) (fun i => (acc ++ tagsI (c.fItems.take i), (i : Int))) c.fItems.length ?_ (fun j hj => ?_) ?_ (by omega)
 ·simp [tagsI]
 ·obtain ⟨x, hxj⟩ : ∃ x, c.fItems[j]? = some x := ⟨_, List.getElem?_eq_getElem (by omega)⟩
  have hl := tagsI_len (n := n) (c.fItems.take j) fun x hx' => hx x (mem_take hx')
  have h4 := itemBad_tags (hx x (List.mem_of_getElem? hxj))
  rw [List.length_take] at hl
  show f22_B1 m c (acc ++ tagsI (c.fItems.take j)) (j : Int) = _
  unfold f22_B1
  rw [decide_eq_true (by omega), cnd_true, idx_get, hxj, bnd_some', app_some 16 _ _ (by rw [List.length_append]; omega) (by rw [List.length_append]; omega), bnd_some', w64_nat j (by omega), take_snoc hxj, tagsI_snoc, List.append_assoc]
 ·show f22_B1 m c (acc ++ tagsI (c.fItems.take c.fItems.length)) (c.fItems.length : Int) = _
  unfold f22_B1
  rw [decide_eq_false (by omega), cnd_false, List.take_length]
theorem f22_eq (m : Nat) (a0 : S23) (ho : OkL a0.fClasses) (hm : 4001 < m) : f22 m a0 = some (tagsL a0.fClasses) := by
 have hlen := tagsC_len a0.fClasses ho.items ho.item
 have hl := ho.len
 have e : iter (fun (y : (List ByteArray) × Int) => f22_B2 m a0 y.1 y.2) m ([], 0) = some (.inr (tagsC a0.fClasses, (a0.fClasses.length : Int))) := by
  refine iter_at (fun (y : (List ByteArray) × Int) => f22_B2 m a0 y.1 y.2) (fun i => (tagsC (a0.fClasses.take i), (i : Int))) a0.fClasses.length ?_ (fun j hj => ?_) ?_ (by omega)
  ·simp [tagsC]
  ·obtain ⟨c, hcj⟩ : ∃ x, a0.fClasses[j]? = some x := ⟨_, List.getElem?_eq_getElem (by omega)⟩
   have hmem := List.mem_of_getElem? hcj
   have hl2 := tagsC_len (a0.fClasses.take j) (fun c hc => ho.items c (mem_take hc)) (fun c hc => ho.item c (mem_take hc))
   rw [List.length_take] at hl2
   show f22_B2 m a0 (tagsC (a0.fClasses.take j)) (j : Int) = _
   unfold f22_B2
   rw [decide_eq_true (by omega), cnd_true, idx_get, hcj, bnd_some', f22_items m c _ (ho.items c hmem) (ho.item c hmem) (by omega) hm, brk_inr, w64_nat j (by omega), take_snoc hcj, tagsC_snoc]
  ·show f22_B2 m a0 (tagsC (a0.fClasses.take a0.fClasses.length)) (a0.fClasses.length : Int) = _
   unfold f22_B2
   rw [decide_eq_false (by omega), cnd_false, List.take_length]
 unfold f22
 rw [e, brk_inr]
 simp only [srt]
 rw [if_pos (by omega), bnd_some']
 rfl
def tagsR (l : List ByteArray) (out : List ByteArray) : List ByteArray := l.foldl (fun o t => insS t o) out
theorem tagsR_app (a b out : List ByteArray) : tagsR (a ++ b) out = tagsR b (tagsR a out) := List.foldl_append ..
theorem tagsR_len : ∀ (l out : List ByteArray), (tagsR l out).length ≤ out.length + l.length
 | [], out => Nat.le_refl _
 | t :: r, out => by
  have h1 := insS_len t out
  have h2 := tagsR_len r (insS t out)
  simp only [tagsR, List.foldl_cons, List.length_cons] at h2 ⊢
  omega
theorem tagsR_spec (l : List ByteArray) : SS (tagsR l []) ∧ ∀ x, x ∈ tagsR l [] ↔ x ∈ l := by
 have h := foldl_mem (Good := SS) (C := fun t x => x = t) (f := fun o t => insS t o) l [] (fun s y _ hs => insS_spec y s hs) List.Pairwise.nil
 refine ⟨h.1, fun x => (h.2 x).trans ?_⟩
 simp
theorem tagsL_R (l : List S44) : tagsL l = tagsR (tagsC l) [] := ss_ext (setS_spec _).1 (tagsR_spec _).1 fun x => ((setS_spec _).2 x).trans ((tagsR_spec _).2 x).symm
theorem f13_at (m : Nat) (out : List ByteArray) (b : ByteArray) (ho : out.length ≤ 1000000) : ∀ (K k : Nat), k ≤ out.length → out.length - k < K →
  iter (fun (y : Int) => f13_B3 m out b y) K (k : Int) = some (.inr (((k + atS b (out.drop k) : Nat)) : Int))
 | 0, k, h1, h2 => by omega
 | K + 1, k, h1, h2 => by
  unfold iter
  rcases Nat.lt_or_ge k out.length with hlt | hge
  ·have hd := List.drop_eq_getElem_cons hlt
   have hx : idx out (k : Int) = some out[k] := by rw [idx_get, List.getElem?_eq_getElem hlt]
   have e0 : f13_B3 m out b (k : Int) = if lessS out[k] b then some (.nxt (((k + 1 : Nat)) : Int)) else some (.brk (k : Int)) := by
    unfold f13_B3
    have hw : w64 ((k : Int) + 1) = ((k + 1 : Nat) : Int) := by rw [w64_id ⟨by omega, by omega⟩]; omega
    rw [decide_eq_true (by omega), hx]
    simp only [cnd_true, bnd_some', less_eq, f13_r2, hw]
    cases lessS out[k] b <;> rfl
   rw [hd]
   simp only [e0, atS]
   by_cases hl : lessS out[k] b = true
   ·simp only [hl, if_true]
    rw [f13_at m out b ho K (k + 1) hlt (by omega), show k + (atS b (out.drop (k + 1)) + 1) = k + 1 + atS b (out.drop (k + 1)) by omega]
   ·simp only [hl, Bool.false_eq_true, if_false]; rfl
  ·have hk : k = out.length := by omega
   have e0 : f13_B3 m out b (k : Int) = some (.brk (k : Int)) := by
    unfold f13_B3
    rw [decide_eq_false (by omega)]
    rfl
   have hd : out.drop k = [] := List.drop_eq_nil_iff.2 (by omega)
   simp only [e0, hd, atS]; rfl
theorem f13_put (m : Nat) (out : List ByteArray) (k : Nat) (b : ByteArray) (ho : out.length ≤ 1000000) (hk : k ≤ 1000000) :
  (bnd (cnd (((atS b out : Nat) : Int) == ((out.length : Int))) (some true) (bnd (idx out ((atS b out : Nat) : Int)) fun v1049 => some (!(v1049.toList == b.toList)))) fun v1038 => f13_r5 m out (k : Int) b ((atS b out : Nat) : Int) v1038) = some (.nxt (insS b out, ((k + 1 : Nat) : Int))) := by
 have hle := atS_le b out
 have hw : w64 ((k : Int) + 1) = ((k + 1 : Nat) : Int) := w64_nat k (by omega)
 have put : f13_r5 m out (k : Int) b ((atS b out : Nat) : Int) true = some (.nxt (out.take (atS b out) ++ [b] ++ out.drop (atS b out), ((k + 1 : Nat) : Int))) := by
  unfold f13_r5
  have s1 : sub out 0 ((atS b out : Nat) : Int) = some (out.take (atS b out)) := by
   unfold sub
   rw [if_pos ⟨by omega, by omega, by omega⟩]
   simp
  have s2 : sub out ((atS b out : Nat) : Int) (out.length : Int) = some (out.drop (atS b out)) := by
   unfold sub
   rw [if_pos ⟨by omega, by omega, by omega⟩]
   simp only [Int.toNat_natCast]
   rw [List.take_of_length_le (by rw [List.length_drop]; omega)]
  rw [cnd_true, s1]
  simp only [bnd_some']
  rw [app_some 16 [] _ (by simp only [List.length_nil, List.length_take]; omega) (by simp only [List.length_nil, List.length_take]; omega)]
  simp only [bnd_some', List.nil_append]
  rw [app_some 16 _ [b] (by simp only [List.length_cons, List.length_nil, List.length_take]; omega) (by simp only [List.length_cons, List.length_nil, List.length_take]; omega), s2]
  simp only [bnd_some']
  rw [app_some 16 _ _ (by simp only [List.length_append, List.length_cons, List.length_nil, List.length_take, List.length_drop]; omega) (by simp only [List.length_append, List.length_cons, List.length_nil, List.length_take, List.length_drop]; omega)]
  simp only [bnd_some', f13_j4, f13_j1, hw]
 unfold insS
 by_cases he : atS b out = out.length
 ·have hb : (((atS b out : Nat) : Int) == ((out.length : Int))) = true := by simp [he]
  rw [hb, if_pos (.inl he)]
  exact put
 ·have hb : (((atS b out : Nat) : Int) == ((out.length : Int))) = false := by simp; omega
  have hx : idx out ((atS b out : Nat) : Int) = some out[atS b out] := by rw [idx_get, List.getElem?_eq_getElem (by omega)]
  rw [hb, hx, cnd_false]
  simp only [bnd_some', tl_eq]
  by_cases hq : out[atS b out] = b
  ·rw [decide_eq_true hq, if_neg]
   ·simp only [Bool.not_true, f13_r5, cnd_false, f13_j4, f13_j1, hw]
   ·rintro (h | h)
    ·exact he h
    ·exact h (by rw [List.getElem?_eq_getElem (by omega), hq])
  ·rw [decide_eq_false hq, if_pos (.inr (by rw [List.getElem?_eq_getElem (by omega)]; simpa using hq))]
   exact put
theorem f13_tags (m : Nat) (x : S46) (out : List ByteArray) (hx : x.fTags.length ≤ 4) (ho : out.length ≤ 100000) (hm : 200000 ≤ m) :
  iter (fun (y : (List ByteArray) × Int) => f13_B6 m x y.1 y.2) m (out, 0) = some (.inr (tagsR x.fTags out, (x.fTags.length : Int))) := by
 refine iter_at (fun (y : (List ByteArray) × Int) => f13_B6 m x y.1 y.2) (fun i => (tagsR (x.fTags.take i) out, (i : Int))) x.fTags.length ?_ (fun j hj => ?_) ?_ (by omega)
 ·rfl
 ·obtain ⟨t, ht⟩ : ∃ t, x.fTags[j]? = some t := ⟨_, List.getElem?_eq_getElem (by omega)⟩
  have hl := tagsR_len (x.fTags.take j) out
  rw [List.length_take] at hl
  show f13_B6 m x (tagsR (x.fTags.take j) out) (j : Int) = _
  unfold f13_B6
  have ha := f13_at m (tagsR (x.fTags.take j) out) t (by omega) m 0 (Nat.zero_le _) (by omega)
  rw [Nat.zero_add, List.drop_zero] at ha
  have ha' : iter (fun (y : Int) => f13_B3 m (tagsR (x.fTags.take j) out) t y) m 0 = _ := ha
  rw [decide_eq_true (by omega), cnd_true, idx_get, ht, bnd_some', ha', brk_inr, f13_put m _ j t (by omega) (by omega), take_snoc ht, tagsR_app]
  rfl
 ·show f13_B6 m x (tagsR (x.fTags.take x.fTags.length) out) (x.fTags.length : Int) = _
  unfold f13_B6
  rw [decide_eq_false (by omega), cnd_false, List.take_length]
theorem f13_items (m : Nat) (c : S44) (out : List ByteArray) {n : Nat} (hc : c.fItems.length ≤ 100) (hx : ∀ x ∈ c.fItems, itemBad n x = 0) (ho : out.length ≤ 50000) (hm : 200000 ≤ m) :
  iter (fun (y : (List ByteArray) × Int) => f13_B7 m c y.1 y.2) m (out, 0) = some (.inr (tagsR (tagsI c.fItems) out, (c.fItems.length : Int))) := by
 refine iter_at (fun (y : (List ByteArray) × Int) => f13_B7 m c y.1 y.2) (fun i => (tagsR (tagsI (c.fItems.take i)) out, (i : Int))) c.fItems.length ?_ (fun j hj => ?_) ?_ (by omega)
 ·rfl
 ·obtain ⟨x, hxj⟩ : ∃ t, c.fItems[j]? = some t := ⟨_, List.getElem?_eq_getElem (by omega)⟩
  have hl := tagsR_len (tagsI (c.fItems.take j)) out
  have hl2 := tagsI_len (n := n) (c.fItems.take j) fun x hx' => hx x (mem_take hx')
  rw [List.length_take] at hl2
  show f13_B7 m c (tagsR (tagsI (c.fItems.take j)) out) (j : Int) = _
  unfold f13_B7
  rw [decide_eq_true (by omega), cnd_true, idx_get, hxj, bnd_some', f13_tags m x _ (itemBad_tags (hx x (List.mem_of_getElem? hxj))) (by omega) hm, brk_inr, w64_nat j (by omega), take_snoc hxj, tagsI_snoc, tagsR_app]
 ·show f13_B7 m c (tagsR (tagsI (c.fItems.take c.fItems.length)) out) (c.fItems.length : Int) = _
  unfold f13_B7
  rw [decide_eq_false (by omega), cnd_false, List.take_length]
theorem f13_eq (m : Nat) (a0 : S23) (ho : OkL a0.fClasses) (hm : 200000 ≤ m) : f13 m a0 = some (tagsL a0.fClasses) := by
 have hlen := tagsC_len a0.fClasses ho.items ho.item
 have hl := ho.len
 have e : iter (fun (y : (List ByteArray) × Int) => f13_B8 m a0 y.1 y.2) m ([], 0) = some (.inr (tagsR (tagsC a0.fClasses) [], (a0.fClasses.length : Int))) := by
  refine iter_at (fun (y : (List ByteArray) × Int) => f13_B8 m a0 y.1 y.2) (fun i => (tagsR (tagsC (a0.fClasses.take i)) [], (i : Int))) a0.fClasses.length ?_ (fun j hj => ?_) ?_ (by omega)
  ·rfl
  ·obtain ⟨c, hcj⟩ : ∃ x, a0.fClasses[j]? = some x := ⟨_, List.getElem?_eq_getElem (by omega)⟩
   have hmem := List.mem_of_getElem? hcj
   have hl1 := tagsR_len (tagsC (a0.fClasses.take j)) []
   have hl2 := tagsC_len (a0.fClasses.take j) (fun c hc => ho.items c (mem_take hc)) (fun c hc => ho.item c (mem_take hc))
   rw [List.length_take] at hl2
   simp only [List.length_nil] at hl1
   show f13_B8 m a0 (tagsR (tagsC (a0.fClasses.take j)) []) (j : Int) = _
   unfold f13_B8
   rw [decide_eq_true (by omega), cnd_true, idx_get, hcj, bnd_some', f13_items m c _ (ho.items c hmem) (ho.item c hmem) (by omega) hm, brk_inr, w64_nat j (by omega), take_snoc hcj, tagsC_snoc, tagsR_app]
  ·show f13_B8 m a0 (tagsR (tagsC (a0.fClasses.take a0.fClasses.length)) []) (a0.fClasses.length : Int) = _
   unfold f13_B8
   rw [decide_eq_false (by omega), cnd_false, List.take_length]
 unfold f13
 rw [e, brk_inr, tagsL_R]
end Go.Abs
namespace Go.Abs.Lx
open Go.Lib
set_option linter.unusedVariables false
set_option maxRecDepth 100000
theorem scatR {a : List UInt8} {s : ByteArray} (h : a.length + s.size ≤ 1000000000) : scat (B a) s = some (B (a ++ L s)) := by
 rw [scat_some (by rw [B_size]; exact h)]
 exact congrArg some (L_inj (by rw [L_app]; rfl))
theorem digit_B : ∀ k : Fin 10, strI [IntKind.u8.wrap (w64 (48 + (k.val : Int)))] = B [UInt8.ofNat (48 + k.val)] := by decide +kernel
theorem dec_small (m k : Nat) (h : k < 10) (q : Nat) : (K26 m (q + 1)).r26 (k : Int) = some (B (decDigits k)) := by
 show b26 m (K26 m q) (k : Int) = _
 unfold b26
 rw [decide_eq_false (by omega), cnd_false, decide_eq_true (by omega), cnd_true, decDigits_one h]
 exact congrArg some (digit_B ⟨k, h⟩)
theorem dec_len {n : Nat} (h : n ≤ 1000000) : (decDigits n).length ≤ 21 := by
 rw [← itoa_nonneg]
 exact itoa_len ⟨by omega, by omega⟩
theorem dec_nat (m : Nat) : ∀ (r n q : Nat), n < 10 ^ (r + 1) → n ≤ 1000000 → r + 1 ≤ q → (K26 m q).r26 (n : Int) = some (B (decDigits n))
 | 0, n, q, h, hn, hq => by
  obtain ⟨q, rfl⟩ : ∃ k, q = k + 1 := ⟨q - 1, by omega⟩
  exact dec_small m n (by omega) q
 | r + 1, n, q, h, hn, hq => by
  obtain ⟨q, rfl⟩ : ∃ k, q = k + 1 := ⟨q - 1, by omega⟩
  by_cases h10 : n < 10
  ·exact dec_small m n h10 q
  ·have e1 : w64 (Int.tdiv (n : Int) 10) = ((n / 10 : Nat) : Int) := by
    rw [show Int.tdiv (n : Int) 10 = ((n / 10 : Nat) : Int) from rfl, w64_id ⟨by omega, by omega⟩]
   have e2 : Int.tmod (n : Int) 10 = ((n % 10 : Nat) : Int) := rfl
   have hp : n / 10 < 10 ^ (r + 1) := by rw [Nat.pow_succ] at h; omega
   show b26 m (K26 m q) (n : Int) = _
   unfold b26
   rw [decide_eq_false (by omega), cnd_false, decide_eq_false (by omega), cnd_false, e1, dec_nat m r (n / 10) q hp (by omega) (by omega), bnd_some', e2]
   obtain ⟨q, rfl⟩ : ∃ k, q = k + 1 := ⟨q - 1, by omega⟩
   rw [dec_small m (n % 10) (by omega) q, bnd_some', scatR (by rw [B_size]; have := dec_len (n := n / 10) (by omega); have := dec_len (n := n % 10) (by omega); omega), bnd_some', L_B, decDigits_one (i := n % 10) (by omega)]
   congr 2
   rw [decDigits.eq_1 n, dif_neg h10]
theorem dec_eq (m : Nat) (hm : 10 < m) {n : Int} (h : -1 ≤ n ∧ n ≤ 1000000) : f26 m n = some (B (itoa n)) := by
 unfold f26
 by_cases hn : n < 0
 ·obtain rfl : n = -1 := by omega
  obtain ⟨q, rfl⟩ : ∃ k, m = k + 1 := ⟨m - 1, by omega⟩
  show b26 (q + 1) (K26 (q + 1) q) (-1) = _
  unfold b26
  have e := dec_nat (q + 1) 0 1 q (by omega) (by omega) (by omega)
  rw [decide_eq_true (by omega), cnd_true, show w64 (0 - (-1)) = ((1 : Nat) : Int) from by decide, e, bnd_some']
  show bnd (scat (B [45]) (B (decDigits 1))) _ = _
  rw [scatR (by rw [B_size]; have := dec_len (n := 1) (by omega); simp only [List.length_cons, List.length_nil]; omega), bnd_some', L_B, show (-1 : Int) = -((1 : Nat) : Int) from rfl, itoa_neg 1 (by omega)]
  rfl
 ·obtain ⟨k, rfl⟩ : ∃ k : Nat, n = k := ⟨n.toNat, by omega⟩
  rw [dec_nat m 6 k m (by omega) (by omega) (by omega), itoa_nonneg]
theorem inter_one (c : UInt8) : ∀ (ps : List (List UInt8)) (p : List UInt8), ps ≠ [] → [c].intercalate (ps ++ [p]) = [c].intercalate ps ++ ([c] ++ p)
 | [], _, h => absurd rfl h
 | [q], p, _ => by simp [List.intercalate, List.intersperse]
 | q :: q2 :: r, p, _ => by
  have ih := inter_one c (q2 :: r) p (by simp)
  have e : ∀ (x y : List UInt8) (z : List (List UInt8)), [c].intercalate (x :: y :: z) = x ++ ([c] ++ [c].intercalate (y :: z)) := fun x y z => by simp [List.intercalate, List.intersperse]
  rw [List.cons_append, List.cons_append, e, ← List.cons_append, ih, e]
  simp only [List.append_assoc]
theorem text_tags (m : Nat) (x : S46) (n : Nat) (h : ItV n x) (pre : List UInt8) (hp : pre.length ≤ 100000) (hm : 10 < m) :
  iter (fun (y : ByteArray × Int) => f10_B2 m x y.1 y.2) m (B pre, 0) = some (.inr (B (pre ++ Lib.join (x.fTags.map L) [44]), (x.fTags.length : Int))) := by
 have h4 := h.few
 have e := iter_at (fun (y : ByteArray × Int) => f10_B2 m x y.1 y.2) (fun i => (B (pre ++ Lib.join ((x.fTags.take i).map L) [44]), (i : Int))) (a0 := (B pre, 0)) (a := (B (pre ++ Lib.join ((x.fTags.take x.fTags.length).map L) [44]), (x.fTags.length : Int))) (m := m) x.fTags.length
  (by rw [List.take_zero, show Lib.join (([] : List ByteArray).map L) [44] = [] from rfl, List.append_nil]; rfl) (fun j hj => ?_) ?_ (by omega)
 ·rw [e, List.take_length]
 ·obtain ⟨t, ht⟩ : ∃ t, x.fTags[j]? = some t := ⟨_, List.getElem?_eq_getElem hj⟩
  have htn := (name_bytes (h.tags t (List.mem_of_getElem? ht))).1
  have hlen : (Lib.join ((x.fTags.take j).map L) [44]).length ≤ 200 := by
   have := join_len 44 ((x.fTags.take j).map L) (fun p hp => by
    obtain ⟨t, ht, rfl⟩ := List.mem_map.1 hp
    have := (name_bytes (h.tags t (List.mem_of_mem_take ht))).1
    rw [L_size]; omega)
   rw [List.length_map, List.length_take] at this
   show ([44].intercalate ((x.fTags.take j).map L)).length ≤ _
   omega
  show f10_B2 m x (B (pre ++ Lib.join ((x.fTags.take j).map L) [44])) (j : Int) = some (.nxt (B (pre ++ Lib.join ((x.fTags.take (j + 1)).map L) [44]), ((j + 1 : Nat) : Int)))
  unfold f10_B2
  rw [decide_eq_true (by omega), cnd_true, idx_get, ht, bnd_some', take_snoc ht]
  by_cases hj0 : j = 0
  ·subst hj0
   rw [decide_eq_false (by omega), cnd_false]
   unfold f10_j1
   rw [scatR (by rw [List.length_append]; omega), bnd_some', w64_nat 0 (by omega)]
   simp [Lib.join, List.intercalate]
  ·rw [decide_eq_true (by omega), cnd_true, scatR (by rw [List.length_append, show (⟨#[44]⟩ : ByteArray).size = 1 from rfl]; omega), bnd_some']
   unfold f10_j1
   rw [scatR (by rw [List.length_append, List.length_append, L_size, show (⟨#[44]⟩ : ByteArray).size = 1 from rfl]; omega), bnd_some', w64_nat j (by omega)]
   have hne : (x.fTags.take j).map L ≠ [] := by
    intro hq
    have := congrArg List.length hq
    rw [List.length_map, List.length_take] at this
    simp only [List.length_nil] at this
    omega
   have := inter_one 44 _ (L t) hne
   rw [List.map_append, show Lib.join ((x.fTags.take j).map L ++ [t].map L) [44] = [44].intercalate ((x.fTags.take j).map L ++ [L t]) from rfl, this]
   simp only [List.append_assoc]
   rfl
 ·show f10_B2 m x (B _) (x.fTags.length : Int) = _
  unfold f10_B2
  rw [decide_eq_false (by omega), cnd_false]
theorem text_item (m : Nat) (c : S44) (x : S46) (n i : Nat) (acc : List UInt8) (hx : c.fItems[i]? = some x) (h : ItV n x) (hn : n ≤ 1000000) (ha : acc.length ≤ 20000) (hi : i ≤ 1000) (hm : 10 < m) :
  f10_B3 m c (B acc) (i : Int) = some (if 8000 < (acc ++ (itemT x ++ [10])).length then .ret ((⟨#[]⟩ : ByteArray), ⟨1, -1⟩) else .nxt (B (acc ++ (itemT x ++ [10])), ((i + 1 : Nat) : Int))) := by
 have hlt := lt_of_getElem? hx
 have h1 := (part_bytes h.base).1
 have h2 := (part_bytes h.form).1
 have h3 := tags_len h
 have h4 := itoa_len (n := x.fNext) ⟨h.next.1, by have := h.next.2; omega⟩
 have h5 := itoa_len (n := x.fWeight) ⟨by have := h.wt.1; omega, h.wt.2⟩
 have s1 : (⟨#[105, 116, 101, 109, 32, 40]⟩ : ByteArray).size = 6 := rfl
 have s2 : (⟨#[41, 40]⟩ : ByteArray).size = 2 := rfl
 have s3 : (⟨#[41, 91]⟩ : ByteArray).size = 2 := rfl
 have s4 : (⟨#[93, 32]⟩ : ByteArray).size = 2 := rfl
 have s5 : (⟨#[32]⟩ : ByteArray).size = 1 := rfl
 have s6 : (⟨#[10]⟩ : ByteArray).size = 1 := rfl
 have e1 : (⟨#[105, 116, 101, 109, 32, 40]⟩ : ByteArray) = B (itmT ++ [40]) := rfl
 have e4 : (⟨#[93, 32]⟩ : ByteArray) = B [93, 32] := rfl
 have l2 : L (⟨#[41, 40]⟩ : ByteArray) = [41, 40] := rfl
 have l3 : L (⟨#[41, 91]⟩ : ByteArray) = [41, 91] := rfl
 have l5 : L (⟨#[32]⟩ : ByteArray) = [32] := rfl
 have l6 : L (⟨#[10]⟩ : ByteArray) = [10] := rfl
 have hi1 : (itmT ++ [40]).length = 6 := rfl
 have ix : idx c.fItems (i : Int) = some x := by rw [idx_get, hx]
 unfold f10_B3
 rw [decide_eq_true (by omega), cnd_true, ix, bnd_some', e1, scatR (by omega), bnd_some', scatR (by rw [List.length_append, L_size]; omega), bnd_some', scatR (by rw [List.length_append, List.length_append, L_size, l2]; simp only [List.length_cons, List.length_nil]; omega), bnd_some',
  scatR (by simp only [List.length_append, L_size, hi1, s2]; rw [s3, List.length_append] at *; omega), bnd_some']
 generalize hB : itmT ++ [40] ++ L x.fBase ++ L (⟨#[41, 40]⟩ : ByteArray) ++ L x.fForm ++ L (⟨#[41, 91]⟩ : ByteArray) = Q
 have hQ : Q.length ≤ 300 := by
  rw [← hB]
  simp only [List.length_append, L_size, s2, s3]
  rw [List.length_append] at hi1
  omega
 rw [scatR (by rw [B_size]; omega), bnd_some', L_B, text_tags m x n h (acc ++ Q) (by rw [List.length_append]; omega) hm, brk_inr, dec_eq m hm ⟨h.next.1, by have := h.next.2; omega⟩, bnd_some', e4, scatR (by rw [B_size]; simp only [List.length_cons, List.length_nil]; omega), bnd_some', L_B,
  scatR (by rw [List.length_append, s5]; simp only [List.length_cons, List.length_nil]; omega), bnd_some', dec_eq m hm ⟨by have := h.wt.1; omega, h.wt.2⟩, bnd_some',
  scatR (by rw [B_size, List.length_append, List.length_append, l5]; simp only [List.length_cons, List.length_nil]; omega), bnd_some', L_B,
  scatR (by rw [List.length_append, List.length_append, List.length_append, l5, s6]; simp only [List.length_cons, List.length_nil]; omega), bnd_some']
 show bnd (scat (B (acc ++ Q ++ Lib.join (x.fTags.map L) [44])) _) _ = _
 rw [scatR (by rw [B_size]; simp only [List.length_append, l5, l6, List.length_cons, List.length_nil]; omega), bnd_some', L_B]
 have hT : acc ++ Q ++ Lib.join (x.fTags.map L) [44] ++ ([93, 32] ++ itoa x.fNext ++ L (⟨#[32]⟩ : ByteArray) ++ itoa x.fWeight ++ L (⟨#[10]⟩ : ByteArray)) = acc ++ (itemT x ++ [10]) := by
  rw [← hB, l2, l3, l5, l6]
  unfold itemT itemR
  simp only [List.append_assoc, List.cons_append, List.nil_append]
 rw [hT, B_size]
 by_cases hbig : 8000 < (acc ++ (itemT x ++ [10])).length
 ·rw [if_pos hbig, decide_eq_true (by omega), cnd_true]
  rfl
 ·rw [if_neg hbig, decide_eq_false (by omega), cnd_false, w64_nat i (by omega)]
theorem text_items (m : Nat) (c : S44) (n : Nat) (hv : ∀ x ∈ c.fItems, ItV n x) (hn : n ≤ 1000000) (hl : c.fItems.length ≤ 100) (hm : 10 < m) : ∀ (K i : Nat) (acc : List UInt8), i ≤ c.fItems.length → c.fItems.length - i < K → acc.length ≤ 20000 →
  (iter (fun (y : ByteArray × Int) => f10_B3 m c y.1 y.2) K (B acc, (i : Int)) = some (.inr (B (acc ++ ((c.fItems.drop i).flatMap fun x => itemT x ++ [10])), (c.fItems.length : Int))) ∧ (acc ++ ((c.fItems.drop i).flatMap fun x => itemT x ++ [10])).length ≤ max acc.length 8000) ∨
  (iter (fun (y : ByteArray × Int) => f10_B3 m c y.1 y.2) K (B acc, (i : Int)) = some (.inl ((⟨#[]⟩ : ByteArray), ⟨1, -1⟩)) ∧ 8000 < (acc ++ ((c.fItems.drop i).flatMap fun x => itemT x ++ [10])).length)
 | 0, i, acc, h1, h2, h3 => by omega
 | K + 1, i, acc, h1, h2, h3 => by
  by_cases hlt : i < c.fItems.length
  ·obtain ⟨x, hx⟩ : ∃ x, c.fItems[i]? = some x := ⟨_, List.getElem?_eq_getElem hlt⟩
   have hxv := hv x (List.mem_of_getElem? hx)
   have e := text_item m c x n i acc hx hxv hn h3 (by omega) hm
   rw [Xl.drop_cons hx, List.flatMap_cons, ← List.append_assoc]
   unfold iter
   simp only [e]
   by_cases hbig : 8000 < (acc ++ (itemT x ++ [10])).length
   ·refine .inr ⟨by rw [if_pos hbig], by rw [List.length_append]; omega⟩
   ·rw [if_neg hbig]
    rcases text_items m c n hv hn hl hm K (i + 1) (acc ++ (itemT x ++ [10])) hlt (by omega) (by omega) with ⟨h4, h5⟩ | ⟨h4, h5⟩
    ·exact .inl ⟨h4, by omega⟩
    ·exact .inr ⟨h4, h5⟩
  ·have hi : i = c.fItems.length := by omega
   have e : f10_B3 m c (B acc) (i : Int) = some (.brk (B acc, (i : Int))) := by
    unfold f10_B3
    rw [decide_eq_false (by omega), cnd_false]
   rw [List.drop_eq_nil_of_le (by omega), List.flatMap_nil, List.append_nil]
   unfold iter
   simp only [e]
   exact .inl ⟨by rw [hi], by omega⟩
theorem text_classes (m : Nat) (a : S23) (hv : LexV a.fClasses) (hm : 101 < m) : ∀ (K j : Nat) (acc : List UInt8), j ≤ a.fClasses.length → a.fClasses.length - j < K → acc.length ≤ 8000 + 40 * j →
  iter (fun (y : ByteArray × Int) => f10_B4 m a y.1 y.2) K (B acc, (j : Int)) = some (.inr (B (acc ++ textT (a.fClasses.drop j)), (a.fClasses.length : Int))) ∨
  (iter (fun (y : ByteArray × Int) => f10_B4 m a y.1 y.2) K (B acc, (j : Int)) = some (.inl ((⟨#[]⟩ : ByteArray), ⟨1, -1⟩)) ∧ 8000 < (acc ++ textT (a.fClasses.drop j)).length)
 | 0, j, acc, h1, h2, h3 => by omega
 | K + 1, j, acc, h1, h2, h3 => by
  have hl := hv.len
  by_cases hlt : j < a.fClasses.length
  ·obtain ⟨c, hc⟩ : ∃ x, a.fClasses[j]? = some x := ⟨_, List.getElem?_eq_getElem hlt⟩
   have hmem := List.mem_of_getElem? hc
   have hn := (name_bytes (hv.name c hmem)).1
   have s1 : (⟨#[99, 108, 97, 115, 115, 32]⟩ : ByteArray).size = 6 := rfl
   have s2 : (⟨#[10]⟩ : ByteArray).size = 1 := rfl
   have e1 : (⟨#[99, 108, 97, 115, 115, 32]⟩ : ByteArray) = B clsT := rfl
   have hcl : clsT.length = 6 := rfl
   have e : f10_B4 m a (B acc) (j : Int) = brk (iter (fun (y : ByteArray × Int) => f10_B3 m c y.1 y.2) m (B (acc ++ (clsT ++ L c.fName ++ [10])), ((0 : Nat) : Int))) (fun r => some (.ret r)) fun y532 => some (.nxt (y532.1, ((j + 1 : Nat) : Int))) := by
    unfold f10_B4
    rw [decide_eq_true (by omega), cnd_true, idx_get, hc, bnd_some', e1, scatR (by omega), bnd_some', scatR (by rw [List.length_append, L_size]; omega), bnd_some', scatR (by rw [B_size, List.length_append, List.length_append, L_size, L_size]; omega), bnd_some', L_B, w64_nat j (by omega)]
    rfl
   have hT : acc ++ textT (a.fClasses.drop j) = acc ++ (clsT ++ L c.fName ++ [10]) ++ (c.fItems.flatMap fun x => itemT x ++ [10]) ++ textT (a.fClasses.drop (j + 1)) := by
    rw [Xl.drop_cons hc]
    unfold textT
    rw [List.flatMap_cons]
    unfold classT
    simp only [List.append_assoc]
   have hal : (acc ++ (clsT ++ L c.fName ++ [10])).length ≤ 8000 + 40 * (j + 1) := by
    simp only [List.length_append, L_size, hcl, List.length_cons, List.length_nil]
    omega
   have hi := text_items m c a.fClasses.length (hv.item c hmem) (by omega) (hv.items c hmem) (by omega) m 0 (acc ++ (clsT ++ L c.fName ++ [10])) (Nat.zero_le _) (by have := hv.items c hmem; omega) (by omega)
   rw [List.drop_zero] at hi
   rw [hT]
   unfold iter
   simp only [e]
   rcases hi with ⟨h4, h5⟩ | ⟨h4, h5⟩
   ·rw [h4, brk_inr]
    exact text_classes m a hv hm K (j + 1) _ hlt (by omega) (by omega)
   ·rw [h4]
    refine .inr ⟨rfl, ?_⟩
    rw [List.length_append]
    omega
  ·have hj : j = a.fClasses.length := by omega
   have e : f10_B4 m a (B acc) (j : Int) = some (.brk (B acc, (j : Int))) := by
    unfold f10_B4
    rw [decide_eq_false (by omega), cnd_false]
   refine .inl ?_
   unfold iter
   simp only [e]
   rw [List.drop_eq_nil_of_le (by omega), hj]
   simp [textT]
theorem text_eq (m : Nat) (a : S23) (hm : 4001 < m) : f10 m a = f9 m a := by
 rw [print_eq m a hm]
 unfold f10
 rw [f7_eq m a hm, bnd_some']
 by_cases h : (lexF a.fClasses).fCode = 0
 ·have hv := lexV_of h
  have hz := (lexF_ok h).2
  rw [if_pos h, hz]
  rw [show (!(((⟨0, 0⟩ : S26).fCode == 0) && (((⟨0, 0⟩ : S26).fIndex == 0) && true))) = false from rfl, cnd_false]
  have hp := text_classes m a hv (by omega) m 0 [] (Nat.zero_le _) (by have := hv.len; omega) (by simp)
  rw [List.drop_zero, List.nil_append] at hp
  have hs : ((⟨#[]⟩ : ByteArray), (0 : Int)) = (B [], ((0 : Nat) : Int)) := rfl
  rw [hs]
  rcases hp with h4 | ⟨h4, h5⟩
  ·rw [h4, brk_inr]
   show cnd (decide (((B (textT a.fClasses)).size : Int) > 4000)) _ _ = _
   rw [B_size]
   by_cases h2 : (textT a.fClasses).length ≤ 4000
   ·rw [if_pos h2, decide_eq_false (by omega), cnd_false]
    rfl
   ·rw [if_neg h2, decide_eq_true (by omega), cnd_true]
    rfl
  ·rw [h4, if_neg (by omega)]
   rfl
 ·rw [if_neg h, show (!(((lexF a.fClasses).fCode == 0) && (((lexF a.fClasses).fIndex == 0) && true))) = true by simp [h], cnd_true]
theorem shape_eq (a : S23) : f3 300000 a = some true := by
 have hm : 4001 < 300000 := by omega
 unfold f3
 rw [told_eq 300000 hm, bnd_some', Bool.not_true, cnd_false, f7_eq _ a hm, bnd_some']
 unfold f8
 rw [f11_eq _ a hm, bnd_some']
 by_cases h : (lexF a.fClasses).fCode = 0
 ·have hv := lexV_of h
  obtain ⟨ho, hz⟩ := lexF_ok h
  rw [hz, show (!(((⟨0, 0⟩ : S26).fCode == 0) && (((⟨0, 0⟩ : S26).fIndex == 0) && true))) = false from rfl, cnd_false, f22_eq _ a ho hm, bnd_some', bnd_some', text_eq _ a hm]
  obtain ⟨o, hq⟩ : ∃ o, f9 300000 a = some o := by
   rw [print_eq _ a hm, if_pos h]
   split
   ·exact ⟨_, rfl⟩
   ·exact ⟨_, rfl⟩
  rw [hq, bnd_some', bnd_some', bnd_some']
  unfold f3_r3 f3_r2 f3_r1
  have hlen : (tagsL a.fClasses).length ≤ 16000 := by
   have h1 := tagsC_len a.fClasses ho.items ho.item
   have h2 := tagsR_len (tagsC a.fClasses) []
   have := ho.len
   rw [tagsL_R]
   simp only [List.length_nil] at h2
   omega
  simp only [beq_self_eq_true, Bool.not_true, Bool.or_false, cnd_false, Bool.and_true]
  rw [f13_eq _ a ho (by omega), bnd_some', f12_self 300000 _ (by omega) (by omega)]
  rfl
 ·have hb : (!(((lexF a.fClasses).fCode == 0) && (((lexF a.fClasses).fIndex == 0) && true))) = true := by simp [h]
  rw [hb, cnd_true, bnd_some', text_eq _ a hm, print_eq _ a hm, if_neg h, bnd_some', bnd_some', bnd_some']
  unfold f3_r3 f3_r2 f3_r1
  simp only [beq_self_eq_true, Bool.not_true, Bool.or_false, cnd_false, Bool.and_true] at hb ⊢
  rw [hb, cnd_true]
  rfl
end Go.Abs.Lx
