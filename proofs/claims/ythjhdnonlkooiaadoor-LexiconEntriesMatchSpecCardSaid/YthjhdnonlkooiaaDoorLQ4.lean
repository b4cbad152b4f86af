/-
  LEXICON ENTRIES, the plain laws: what the second writing says of names, words and parts.
-/
import Derived.Test.YthjhdnonlkooiaaDoorLP4
import Derived.Test.YthjhdnonlkooiaaDoorWF2
import Derived.Test.YthjhdnonlkooiaaDoorWF3
import Derived.Test.YthjhdnonlkooiaaDoorWLaw
section
namespace Go.Abs
set_option linter.unusedVariables false
set_option maxRecDepth 100000
theorem f35_eq (m : Nat) (s : ByteArray) (hm : 31 < m) : f35 m s = some (nameS s) := by
  unfold f35 f35_r8 nameS
  by_cases h : 1 ≤ s.size ∧ s.size ≤ 30
  · have hb : ((((s.size : Int)) == 0) || (decide ((s.size : Int) > 30))) = false := by
      simp only [Bool.or_eq_false_iff, decide_eq_false_iff_not, beq_eq_false_iff_ne]
      omega
    have hl := byt_len s
    obtain ⟨c0, r, hc⟩ : ∃ c r, byt s = c :: r := by
      cases hq : byt s with
      | nil => rw [hq] at hl; simp at hl; omega
      | cons c r => exact ⟨c, r, rfl⟩
    have h0 : sidx s 0 = some c0 := by
      have := sidx_get s 0
      rw [hc] at this
      exact this
    rw [hb, decide_eq_true h, h0]
    simp only [cnd_false, bnd_some', f35_r7, Bool.true_and]
    have hfirst : ∀ b : Bool, allP (fun i c => letB c || (i != 0 && nameB c)) 0 (byt s) = (letB c0 && (byt s).all nameB) := by
      intro _
      have hn : letB c0 = true → nameB c0 = true := fun h => by unfold nameB; rw [h]; rfl
      have hrest : ∀ (l : List Int) (i : Int), 1 ≤ i → allP (fun i c => letB c || (i != 0 && nameB c)) i l = l.all nameB := by
        intro l
        induction l with
        | nil => intro i _; rfl
        | cons x l ih =>
          intro i hi
          have hi0 : (i != 0) = true := by simp; omega
          have hx : (letB x || nameB x) = nameB x := by unfold nameB; cases letB x <;> simp
          simp only [allP, List.all_cons, ih (i + 1) (by omega), hi0, Bool.true_and, hx]
      rw [hc]
      simp only [allP, List.all_cons]
      rw [hrest r (0 + 1) (by omega)]
      cases hq : letB c0 with
      | true => rw [hn hq]; simp
      | false => simp
    rw [hfirst true]
    by_cases h1 : c0 < 97
    · have : letB c0 = false := by unfold letB; rw [decide_eq_false (by omega)]; rfl
      rw [decide_eq_true h1, this]
      rfl
    · rw [decide_eq_false h1]
      simp only [cnd_false, h0, bnd_some', f35_r6]
      by_cases h2 : c0 > 122
      · have : letB c0 = false := by unfold letB; rw [decide_eq_false (by omega : ¬ c0 ≤ 122), Bool.and_false]
        rw [decide_eq_true h2, this]
        rfl
      · have hlet : letB c0 = true := by unfold letB; rw [decide_eq_true (by omega), decide_eq_true (by omega)]; rfl
        rw [decide_eq_false h2, hlet, cnd_false, Bool.true_and]
        have e : iter (fun (y : Int) => f35_B5 m s y) m 0 = landed (fun (_ : Unit) (i : Int) => i) (byt s).length (scan (fun _ (_ : Unit) c => if nameB c then some (.inr ()) else some (.inl false)) 0 () (byt s)) := by
          refine iter_scan (byt s) (fun (y : Int) => f35_B5 m s y) (fun (_ : Unit) (i : Int) => i) (fun _ (_ : Unit) c => if nameB c then some (.inr ()) else some (.inl false)) (fun u k hi => ?_) m 0 () (by omega) (by rw [byt_len]; omega)
          unfold f35_B5
          rw [← hl]
          refine body_turn' rfl fun c hcx => ?_
          have hw : w64 ((k : Int) + 1) = (k : Int) + 1 := w64_id ⟨by omega, by omega⟩
          rw [sidx_get, hcx]
          simp only [bnd_some', f35_r4, f35_r3, f35_r2, f35_r1, hw]
          have key : (((((decide (c ≥ 97)) && (decide (c ≤ 122))) || (((decide (c ≥ 48)) && (decide (c ≤ 57))))) || (c == 95)) || (c == 45)) = nameB c := rfl
          rw [key]
          cases nameB c <;> rfl
        rw [e, scan_all nameB]
        cases (byt s).all nameB <;> rfl
  · have hb : ((((s.size : Int)) == 0) || (decide ((s.size : Int) > 30))) = true := by
      simp only [Bool.or_eq_true, decide_eq_true_eq, beq_iff_eq]
      omega
    rw [hb, decide_eq_false h]
    rfl
theorem f37_eq (m : Nat) (l : List ByteArray) (hm : 31 < m) : f37 m l 4 = some (tagsS l) := by
  unfold f37 tagsS
  by_cases hl : l.length > 4
  · rw [if_pos hl, decide_eq_true (by omega)]; rfl
  · rw [if_neg hl, decide_eq_false (by omega), cnd_false]
    have e : iter (fun (y : Int) => f37_B1 m l y) m 0 = landed (fun (_ : Unit) (i : Int) => i) l.length (scan (fun _ (_ : Unit) x => if nameS x then some (.inr ()) else some (.inl 10)) 0 () l) := by
      refine iter_scan l (fun (y : Int) => f37_B1 m l y) (fun (_ : Unit) (i : Int) => i) (fun _ (_ : Unit) x => if nameS x then some (.inr ()) else some (.inl 10)) (fun u k hi => ?_) m 0 () (by omega) (by omega)
      refine body_turn rfl fun x hx => ?_
      have hw : w64 ((k : Int) + 1) = (k : Int) + 1 := w64_id ⟨by omega, by omega⟩
      rw [f35_eq m x hm, hw]
      by_cases h : nameS x = true <;> simp [h]
    rw [e, scan_all nameS]
    by_cases h : l.all nameS = true
    · rw [if_pos h, if_pos h]; rfl
    · rw [if_neg h, if_neg h]; rfl
theorem f66_eq (m : Nat) (l : List Nat) (p w : Nat) (h : oneN l = some (p, w)) : f66 m (p : Int) = some (w : Int) := by
  obtain ⟨h1, h2, h3, h4, h5, h6, h7, h8⟩ := oneN_w h
  have hw : w = 1 ∨ w = 2 ∨ w = 3 ∨ w = 4 := by omega
  unfold f66
  rcases hw with rfl | rfl | rfl | rfl
  · have := h5 rfl
    rw [decide_eq_true (by omega)]; rfl
  · have := h6 rfl
    rw [decide_eq_false (by omega), decide_eq_true (by omega)]; rfl
  · have := h7 rfl
    rw [decide_eq_false (by omega), decide_eq_false (by omega), decide_eq_true (by omega)]; rfl
  · have := h8 rfl
    rw [decide_eq_false (by omega), decide_eq_false (by omega), decide_eq_false (by omega)]; rfl
theorem f65_loop (m : Nat) (s : ByteArray) (i n : Nat) (hn : i + n ≤ s.size) (hs : s.size ≤ 4000) : ∀ (d K k v : Nat), k + d = n → d < K → d ≤ 3 → v ≤ BB d →
    iter (fun (y : Int × Int) => f65_B2 m s (i : Int) (n : Int) y.1 y.2) K ((v : Int), (k : Int)) = match conts v ((bytN s).drop (i + k)) d with
      | some r => some (.inr ((r : Int), (n : Int)))
      | none => some (.inl (-1))
  | d, 0, k, v, h1, h2, h3, h4 => by omega
  | 0, K + 1, k, v, h1, h2, h3, h4 => by
    have hk : k = n := by omega
    subst hk
    have e0 : f65_B2 m s (i : Int) (k : Int) (v : Int) (k : Int) = some (.brk ((v : Int), (k : Int))) := by
      unfold f65_B2
      rw [decide_eq_false (by omega), cnd_false]
    unfold iter
    simp only [e0, conts]
  | d + 1, K + 1, k, v, h1, h2, h3, h4 => by
    have hlt : i + k < s.size := by omega
    have hl : i + k < (bytN s).length := by rw [bytN_len]; exact hlt
    have hb := bytN_lt s ((bytN s)[i + k]) (List.getElem_mem hl)
    have hw1 : w64 ((i : Int) + (k : Int)) = ((i + k : Nat) : Int) := by rw [w64_id ⟨by omega, by omega⟩]; omega
    have hw2 : w64 ((k : Int) + 1) = ((k + 1 : Nat) : Int) := by rw [w64_id ⟨by omega, by omega⟩]; omega
    have hx : sidx s ((i + k : Nat) : Int) = some (((bytN s)[i + k] : Nat) : Int) := by
      have := byt_get s (i + k) 0
      rw [Nat.add_zero] at this
      rw [this, List.getElem?_drop, Nat.add_zero, List.getElem?_eq_getElem hl]; rfl
    rw [List.drop_eq_getElem_cons hl]
    generalize (bytN s)[i + k] = b at *
    have hw3 : w64 (b : Int) = (b : Int) := w64_id ⟨by omega, by omega⟩
    have hB := BB_step d h3
    have hBl := BB_le d
    simp only [conts]
    by_cases hc : 128 ≤ b ∧ b ≤ 191
    · have hw4 : w64 ((v : Int) * 64) = ((v * 64 : Nat) : Int) := by rw [w64_id ⟨by omega, by omega⟩]; omega
      have hw5 : w64 (((v * 64 : Nat) : Int) + (b : Int)) = ((v * 64 + b : Nat) : Int) := by rw [w64_id ⟨by omega, by omega⟩]; omega
      have hw6 : w64 (((v * 64 + b : Nat) : Int) - 128) = ((v * 64 + (b - 128) : Nat) : Int) := by rw [w64_id ⟨by omega, by omega⟩]; omega
      have e0 : f65_B2 m s (i : Int) (n : Int) (v : Int) (k : Int) = some (.nxt (((v * 64 + (b - 128) : Nat) : Int), ((k + 1 : Nat) : Int))) := by
        unfold f65_B2
        rw [decide_eq_true (by omega), cnd_true, hw1, hx]
        simp only [bnd_some', f65_r1, hw3, hw4, hw5, hw6, hw2]
        rw [decide_eq_false (by omega), decide_eq_false (by omega)]
        rfl
      have ih := f65_loop m s i n hn hs d K (k + 1) (v * 64 + (b - 128)) (by omega) (by omega) (by omega) (by omega)
      rw [if_pos hc]
      unfold iter
      simp only [e0]
      exact ih
    · have e0 : f65_B2 m s (i : Int) (n : Int) (v : Int) (k : Int) = some (.ret (-1)) := by
        unfold f65_B2
        rw [decide_eq_true (by omega), cnd_true, hw1, hx]
        simp only [bnd_some', f65_r1, hw3]
        have : (decide ((b : Int) < 128) || decide ((b : Int) > 191)) = true := by
          simp only [Bool.or_eq_true, decide_eq_true_eq]; omega
        rw [this]
        rfl
      rw [if_neg hc]
      unfold iter
      simp only [e0]
theorem f65_j4_eq (m : Nat) (s : ByteArray) (i n v : Nat) (h1 : 1 ≤ n) (h4 : n ≤ 4) (hv : v ≤ BB (n - 1)) (hi : i < s.size) (hs : s.size ≤ 4000) (hm : 5 < m) :
    f65_j4 m s (i : Int) (n : Int) (v : Int) = some (if i + n ≤ s.size then fin n (conts v ((bytN s).drop (i + 1)) (n - 1)) else -1) := by
  unfold f65_j4
  have hw1 : w64 ((i : Int) + (n : Int)) = ((i + n : Nat) : Int) := by rw [w64_id ⟨by omega, by omega⟩]; omega
  rw [hw1]
  by_cases hn : i + n ≤ s.size
  · rw [decide_eq_false (by omega), if_pos hn, cnd_false]
    have e := f65_loop m s i n hn hs (n - 1) m 1 v (by omega) (by omega) (by omega) hv
    have e : iter (fun (y : Int × Int) => f65_B2 m s (i : Int) (n : Int) y.1 y.2) m ((v : Int), 1) = _ := e
    rw [e]
    cases hc : conts v ((bytN s).drop (i + 1)) (n - 1) with
    | none => rfl
    | some r =>
      simp only [brk_inr, f85, f85_r2, f85_r1, bnd_some']
      have hsc : (((decide ((r : Int) ≥ 0)) && (decide ((r : Int) < 55296))) || ((decide ((r : Int) > 57343)) && (decide ((r : Int) ≤ 1114111)))) = decide (r < 55296 ∨ (57344 ≤ r ∧ r ≤ 1114111)) := by
        rw [Bool.eq_iff_iff]
        simp only [Bool.or_eq_true, Bool.and_eq_true, decide_eq_true_eq]
        omega
      have hwd : f66 m (r : Int) = some ((if r < 128 then 1 else if r < 2048 then 2 else if r < 65536 then 3 else 4 : Nat) : Int) := by
        unfold f66
        by_cases k1 : r < 128
        · rw [decide_eq_true (by omega), if_pos k1]; rfl
        · rw [decide_eq_false (by omega), if_neg k1]
          by_cases k2 : r < 2048
          · rw [decide_eq_true (by omega), if_pos k2]; rfl
          · rw [decide_eq_false (by omega), if_neg k2]
            by_cases k3 : r < 65536
            · rw [decide_eq_true (by omega), if_pos k3]; rfl
            · rw [decide_eq_false (by omega), if_neg k3]; rfl
      rw [hsc, hwd]
      simp only [fin]
      generalize (if r < 128 then 1 else if r < 2048 then 2 else if r < 65536 then 3 else 4 : Nat) = wd
      by_cases hq : r < 55296 ∨ (57344 ≤ r ∧ r ≤ 1114111)
      · rw [decide_eq_true hq]
        simp only [Bool.not_true, cnd_false, bnd_some', f65_r3]
        by_cases hwn : wd = n
        · subst hwn
          have hb : (((wd : Nat) : Int) != ((wd : Nat) : Int)) = false := by simp
          rw [hb, cnd_false, if_pos ⟨hq, rfl⟩]
        · have hb : (((wd : Nat) : Int) != ((n : Nat) : Int)) = true := by simp only [bne_iff_ne, ne_eq]; omega
          rw [hb, cnd_true, if_neg (fun h => hwn h.2)]
      · rw [decide_eq_false hq]
        simp only [Bool.not_false, cnd_true, bnd_some', f65_r3]
        rw [if_neg (fun h => hq h.1)]
  · rw [decide_eq_true (by omega), if_neg hn]; rfl

theorem f65_eq (m : Nat) (s : ByteArray) (i : Nat) (hi : i < s.size) (hs : s.size ≤ 4000) (hm : 5 < m) : f65 m s (i : Int) = some (oneS ((bytN s).drop i)) := by
  have hl : i < (bytN s).length := by rw [bytN_len]; exact hi
  have hb := bytN_lt s ((bytN s)[i]) (List.getElem_mem hl)
  have hx : sidx s (i : Int) = some (((bytN s)[i] : Nat) : Int) := by
    have := byt_get s i 0
    rw [Nat.add_zero] at this
    rw [this, List.getElem?_drop, Nat.add_zero, List.getElem?_eq_getElem hl]; rfl
  have hd := List.drop_eq_getElem_cons hl
  have hrl : ((bytN s).drop (i + 1)).length = s.size - (i + 1) := by rw [List.length_drop, bytN_len]
  rw [hd]
  unfold f65
  rw [hx]
  generalize (bytN s)[i] = b at *
  have hw : w64 (b : Int) = (b : Int) := w64_id ⟨by omega, by omega⟩
  simp only [bnd_some', hw]
  by_cases k4 : 240 ≤ b
  · rw [decide_eq_true (by omega), cnd_true]
    have hw4 : w64 ((b : Int) - 240) = ((b - 240 : Nat) : Int) := by rw [w64_id ⟨by omega, by omega⟩]; omega
    rw [hw4]
    refine (f65_j4_eq m s i 4 (b - 240) (by omega) (by omega) (by show b - 240 ≤ 100; omega) hi hs hm).trans ?_
    rw [← lead4 b ⟨k4, hb⟩, hrl]
    have : (i + 4 ≤ s.size) = (3 ≤ s.size - (i + 1)) := propext ⟨fun h => by omega, fun h => by omega⟩
    simp only [this]
  rw [decide_eq_false (by omega), cnd_false]
  by_cases k3 : 224 ≤ b
  · rw [decide_eq_true (by omega), cnd_true]
    have hw4 : w64 ((b : Int) - 224) = ((b - 224 : Nat) : Int) := by rw [w64_id ⟨by omega, by omega⟩]; omega
    rw [hw4]
    refine (f65_j4_eq m s i 3 (b - 224) (by omega) (by omega) (by show b - 224 ≤ 6500; omega) hi hs hm).trans ?_
    rw [← lead3 b ⟨k3, by omega⟩, hrl]
    have : (i + 3 ≤ s.size) = (2 ≤ s.size - (i + 1)) := propext ⟨fun h => by omega, fun h => by omega⟩
    simp only [this]
  rw [decide_eq_false (by omega), cnd_false]
  by_cases k2 : 192 ≤ b
  · rw [decide_eq_true (by omega), cnd_true]
    have hw4 : w64 ((b : Int) - 192) = ((b - 192 : Nat) : Int) := by rw [w64_id ⟨by omega, by omega⟩]; omega
    rw [hw4]
    refine (f65_j4_eq m s i 2 (b - 192) (by omega) (by omega) (by show b - 192 ≤ 420000; omega) hi hs hm).trans ?_
    rw [← lead2 b ⟨k2, by omega⟩, hrl]
    have : (i + 2 ≤ s.size) = (1 ≤ s.size - (i + 1)) := propext ⟨fun h => by omega, fun h => by omega⟩
    simp only [this]
  rw [decide_eq_false (by omega), cnd_false]
  by_cases k1 : 128 ≤ b
  · rw [decide_eq_true (by omega), cnd_true]
    unfold oneS
    simp only [oneN]
    rw [if_neg (by omega), if_pos (by omega)]
  · rw [decide_eq_false (by omega), cnd_false]
    refine (f65_j4_eq m s i 1 b (by omega) (by omega) (by show b ≤ 27000000; omega) hi hs hm).trans ?_
    rw [if_pos (by omega)]
    unfold oneS
    simp only [oneN, conts, fin, Nat.sub_self]
    rw [if_pos (by omega : b < 128), if_pos (by omega : b < 128), if_pos ⟨by omega, rfl⟩]
theorem f41_loop (m : Nat) (s : ByteArray) (hs : s.size ≤ 4000) (hm : 5 < m) : ∀ (K i : Nat) (acc : List Int), i ≤ s.size → s.size - i < K → acc.length ≤ i →
    (∀ L, ptsB ((bytN s).drop i) = some L → iter (fun (y : (List Int) × Int) => f41_B1 m s y.1 y.2) K (acc, (i : Int)) = some (.inr (acc ++ castL L, (s.size : Int)))) ∧
    (ptsB ((bytN s).drop i) = none → ∃ j, iter (fun (y : (List Int) × Int) => f41_B1 m s y.1 y.2) K (acc, (i : Int)) = some (.inl ([], ⟨5, j⟩)))
  | 0, i, acc, h1, h2, h3 => by omega
  | K + 1, i, acc, h1, h2, h3 => by
    by_cases hlt : i < s.size
    · have hne : (bytN s).drop i ≠ [] := fun e => by have := List.drop_eq_nil_iff.1 e; rw [bytN_len] at this; omega
      have e0 : f41_B1 m s acc (i : Int) = cnd (decide (oneS ((bytN s).drop i) < 0)) (some (.ret ([], ⟨5, (i : Int)⟩))) (bnd (app 8 acc [oneS ((bytN s).drop i)]) fun v25 => bnd (f66 m (oneS ((bytN s).drop i))) fun v26 => some (.nxt (v25, w64 ((i : Int) + v26)))) := by
        unfold f41_B1
        rw [decide_eq_true (by omega), cnd_true, f65_eq m s i hlt hs hm]
        rfl
      cases hq : oneN ((bytN s).drop i) with
      | none =>
        have hm1 : oneS ((bytN s).drop i) = -1 := by unfold oneS; rw [hq]
        rw [hm1] at e0
        refine ⟨fun L hL => ?_, fun _ => ⟨(i : Int), ?_⟩⟩
        · rw [ptsB_bad hne hq] at hL; cases hL
        · unfold iter
          simp only [e0]
          rfl
      | some y =>
        obtain ⟨p, w⟩ := y
        have hp : oneS ((bytN s).drop i) = (p : Int) := by unfold oneS; rw [hq]
        rw [hp] at e0
        obtain ⟨g1, g2, g3, g4, g5, _⟩ := oneN_w hq
        rw [List.length_drop, bytN_len] at g3
        have hw2 : w64 ((i : Int) + (w : Int)) = ((i + w : Nat) : Int) := by rw [w64_id ⟨by omega, by omega⟩]; omega
        have e1 : f41_B1 m s acc (i : Int) = some (.nxt (acc ++ [(p : Int)], ((i + w : Nat) : Int))) := by
          rw [e0, decide_eq_false (by omega), cnd_false, app_some 8 acc [(p : Int)] (by simp only [List.length_cons, List.length_nil]; omega) (by simp only [List.length_cons, List.length_nil]; omega), f66_eq m _ p w hq]
          simp only [bnd_some', hw2]
        have ih := f41_loop m s hs hm K (i + w) (acc ++ [(p : Int)]) (by omega) (by omega) (by simp only [List.length_append, List.length_cons, List.length_nil]; omega)
        rw [ptsB_one hq, List.drop_drop]
        refine ⟨fun L hL => ?_, fun hn => ?_⟩
        · obtain ⟨L', hL', rfl⟩ := Option.map_eq_some_iff.1 hL
          have := ih.1 L' hL'
          unfold iter
          simp only [e1]
          rw [this]
          simp [castL]
        · obtain ⟨j, hj⟩ := ih.2 (by simpa using hn)
          refine ⟨j, ?_⟩
          unfold iter
          simp only [e1]
          exact hj
    · have hi : i = s.size := by omega
      have hd : (bytN s).drop i = [] := List.drop_eq_nil_iff.2 (by rw [bytN_len]; omega)
      rw [hd]
      refine ⟨fun L hL => ?_, fun hn => by cases hn⟩
      rw [ptsB_nil] at hL
      cases hL
      unfold iter
      have e0 : f41_B1 m s acc (i : Int) = some (.brk (acc, (i : Int))) := by
        unfold f41_B1
        rw [decide_eq_false (by omega), cnd_false]
      simp only [e0]
      rw [hi]
      simp [castL]
theorem f41_eq (m : Nat) (s : ByteArray) (hm : 4001 < m) : (∀ L, s.size ≤ 4000 → ptsS s = some L → f41 m s = some (castL L, ⟨0, 0⟩)) ∧ ((¬ s.size ≤ 4000 ∨ ptsS s = none) → ∃ c j, c ≠ 0 ∧ f41 m s = some ([], ⟨c, j⟩)) := by
  by_cases hs : s.size ≤ 4000
  · have h := f41_loop m s hs (by omega) m 0 [] (by omega) (by omega) (Nat.le_refl _)
    rw [List.drop_zero] at h
    have e0 : f41 m s = brk (iter (fun (y : (List Int) × Int) => f41_B1 m s y.1 y.2) m ([], ((0 : Nat) : Int))) some fun y49 => some ((y49.1, (⟨0, 0⟩ : S27))) := by
      unfold f41
      rw [decide_eq_false (by omega), cnd_false]
      rfl
    refine ⟨fun L _ hL => ?_, fun hn => ?_⟩
    · rw [e0, h.1 L hL]; simp
    · rcases hn with hn | hn
      · exact (hn hs).elim
      · obtain ⟨j, hj⟩ := h.2 hn
        exact ⟨5, j, by decide, by rw [e0, hj]; rfl⟩
  · refine ⟨fun L h _ => (hs h).elim, fun _ => ⟨1, -1, by decide, ?_⟩⟩
    unfold f41
    rw [decide_eq_true (by omega)]
    rfl
theorem f16_inner (m : Nat) (p : Nat) (hm : 4001 < m) : iter (fun (y : Int) => f16_B1 m (p : Int) y) m 0 = if badL.all (fun y => !((p : Int) == y)) then some (.inr 10) else some (.inl false) := by
  have e : iter (fun (y : Int) => f16_B1 m (p : Int) y) m 0 = landed (fun (_ : Unit) (i : Int) => i) badL.length (scan (fun _ (_ : Unit) x => if !((p : Int) == x) then some (.inr ()) else some (.inl false)) 0 () badL) := by
    refine iter_scan badL (fun (y : Int) => f16_B1 m (p : Int) y) (fun (_ : Unit) (i : Int) => i) (fun _ (_ : Unit) x => if !((p : Int) == x) then some (.inr ()) else some (.inl false)) (fun u k hi => ?_) m 0 () (by omega) (by show 10 < m + 0; omega)
    have hk : k ≤ 10 := hi
    have hw : w64 ((k : Int) + 1) = (k : Int) + 1 := w64_id ⟨by omega, by omega⟩
    unfold f16_B1
    refine body_turn (xs := badL) rfl fun x hx => ?_
    rw [hw]
    cases (p : Int) == x <;> rfl
  rw [e, scan_all]
  cases badL.all (fun y => !((p : Int) == y)) <;> rfl
theorem f16_loop (m : Nat) (L : List Nat) (f : S27) (hL : L.length ≤ 4000) (hp : ∀ p ∈ L, p ≤ 1114111) (hm : 4001 < m) :
    iter (fun (y : Int) => f16_B2 m (castL L, f) y) m 0 = if L.all (fun p => !badP p) then some (.inr (L.length : Int)) else some (.inl false) := by
  have e : iter (fun (y : Int) => f16_B2 m (castL L, f) y) m 0 = landed (fun (_ : Unit) (i : Int) => i) (castL L).length (scan (fun _ (_ : Unit) x => if !badP x.toNat then some (.inr ()) else some (.inl false)) 0 () (castL L)) := by
    refine iter_scan (castL L) (fun (y : Int) => f16_B2 m (castL L, f) y) (fun (_ : Unit) (i : Int) => i) (fun _ (_ : Unit) x => if !badP x.toNat then some (.inr ()) else some (.inl false)) (fun u k hi => ?_) m 0 () (by omega) (by rw [castL_len]; omega)
    rw [castL_len] at hi
    refine body_turn rfl fun x hx => ?_
    obtain ⟨p, rfl, hmem⟩ := castL_get hx
    have hw : w64 ((k : Int) + 1) = (k : Int) + 1 := w64_id ⟨by omega, by omega⟩
    rw [f16_inner m p hm, badL_all, Int.toNat_natCast, hw]
    unfold badP
    cases [0, 9, 10, 32, 40, 41, 91, 93, 44, 59].contains p
    · simp only [Bool.not_false, if_true, brk_inr, Bool.false_or]
      by_cases h : 983040 ≤ p
      · rw [decide_eq_true (by omega : (p : Int) ≥ 983040), decide_eq_true h]; rfl
      · rw [decide_eq_false (by omega : ¬ (p : Int) ≥ 983040), decide_eq_false h]; rfl
    · rfl
  rw [e, scan_all, castL_all, castL_len]
  cases L.all (fun p => !badP p) <;> rfl
theorem f16_eq (m : Nat) (s : ByteArray) (hm : 4001 < m) : f16 m s = some (wordS s) := by
  obtain ⟨g1, g2⟩ := f41_eq m s hm
  unfold f16 wordS
  by_cases hs : s.size ≤ 4000
  · cases hq : ptsS s with
    | some L =>
      have hl := ptsS_len hq
      rw [g1 L hs hq]
      simp only [bnd_some', f16_r4, f16_r3, castL_len, okP, beq_self_eq_true, Bool.true_and, Bool.not_true, Bool.false_or, decide_eq_true hs]
      by_cases hc : 1 ≤ L.length ∧ L.length ≤ 30
      · have hb : (((L.length : Int) == 0) || decide ((L.length : Int) > 30)) = false := by
          simp only [Bool.or_eq_false_iff, decide_eq_false_iff_not, beq_eq_false_iff_ne, ne_eq]; omega
        rw [hb, cnd_false, f16_loop m L _ (by omega) hl.2.2 hm, decide_eq_true hc]
        cases L.all (fun p => !badP p) <;> rfl
      · have hb : (((L.length : Int) == 0) || decide ((L.length : Int) > 30)) = true := by
          simp only [Bool.or_eq_true, decide_eq_true_eq, beq_iff_eq]; omega
        rw [hb, decide_eq_false hc]
        rfl
    | none =>
      obtain ⟨c, j, hc, e⟩ := g2 (.inr hq)
      rw [e]
      have hb : (c == 0) = false := by simpa using hc
      simp only [bnd_some', hb, Bool.false_and, Bool.not_false, Bool.true_or, f16_r4, f16_r3, cnd_true, Bool.and_false]
  · obtain ⟨c, j, hc, e⟩ := g2 (.inl hs)
    rw [e]
    have hb : (c == 0) = false := by simpa using hc
    simp only [bnd_some', hb, Bool.false_and, Bool.not_false, Bool.true_or, f16_r4, f16_r3, cnd_true, decide_eq_false hs]
theorem f38_eq (m : Nat) (s : ByteArray) (hm : 4001 < m) : f38 m s = some (partS s) := by
  unfold f38 f38_r1 partS
  rw [tl_eq, f16_eq m s hm]
  cases decide (s = ⟨#[]⟩) <;> rfl
end Go.Abs
end
section
namespace Go.Abs
open Go.Sort Go.Proofs
set_option linter.unusedVariables false

/-! ### the second order -/
def fdU : List ByteArray → List ByteArray → Option Int
  | x :: a, y :: b => if cmpB x y ≠ 0 then some (cmpB x y) else fdU a b
  | _, _ => none
theorem cmpT_fu : ∀ a b, match fdU a b with
    | some r => r ≠ 0 ∧ cmpT a b = r
    | none => (cmpT a b < 0 ↔ a.length < b.length) ∧ (cmpT a b = 0 ↔ a.length = b.length)
  | [], [] => by simp [cmpT, fdU]
  | [], _ :: _ => by simp [cmpT, fdU]
  | _ :: _, [] => by simp [cmpT, fdU]
  | x :: a, y :: b => by
    have ih := cmpT_fu a b
    by_cases h : cmpB x y = 0
    · simp only [fdU, cmpT, h, ne_eq, not_true, if_false]
      cases hq : fdU a b with
      | some r => rw [hq] at ih; exact ih
      | none => rw [hq] at ih; simpa using ih
    · simp only [fdU, cmpT, ne_eq, h, not_false_eq_true, if_true]
      exact ⟨trivial, trivial⟩
theorem f71_loop (m : Nat) (a b : List ByteArray) (ha : a.length ≤ 1000000) : ∀ (K i : Nat), i ≤ a.length → a.length - i < K → match fdU (a.drop i) (b.drop i) with
    | some r => iter (fun (y : Int) => f71_B2 m a b y) K (i : Int) = some (.inl r)
    | none => ∃ j, iter (fun (y : Int) => f71_B2 m a b y) K (i : Int) = some (.inr j)
  | 0, i, h1, h2 => by omega
  | K + 1, i, h1, h2 => by
    unfold iter
    by_cases hij : i < a.length ∧ i < b.length
    · obtain ⟨hi, hj⟩ := hij
      have hw : w64 ((i : Int) + 1) = ((i + 1 : Nat) : Int) := by rw [w64_id ⟨by omega, by omega⟩]; omega
      have hda : a.drop i = a[i] :: a.drop (i + 1) := List.drop_eq_getElem_cons hi
      have hdb : b.drop i = b[i] :: b.drop (i + 1) := List.drop_eq_getElem_cons hj
      have e : f71_B2 m a b (i : Int) = cnd (cmpB a[i] b[i] != 0) (some (.ret (cmpB a[i] b[i]))) (some (.nxt ((i + 1 : Nat) : Int))) := by
        unfold f71_B2 f71_r1
        rw [decide_eq_true (by omega : (i : Int) < (a.length : Int)), decide_eq_true (by omega : (i : Int) < (b.length : Int)), Bool.and_self, cnd_true]
        simp only [idx_get, List.getElem?_eq_getElem hi, List.getElem?_eq_getElem hj, bnd_some', hw]
        unfold cmpB
        by_cases h1 : Op.bytesLess a[i].toList b[i].toList = true
        · simp [h1]
        · have h1 : Op.bytesLess a[i].toList b[i].toList = false := by simpa using h1
          by_cases h2 : (a[i].toList == b[i].toList) = true <;> simp [h1, h2]
      rw [hda, hdb]
      simp only [e, fdU]
      by_cases h : cmpB a[i] b[i] = 0
      · have hb : (cmpB a[i] b[i] != 0) = false := by simp [h]
        simp only [h, ne_eq, not_true, if_false]
        exact f71_loop m a b ha K (i + 1) hi (by omega)
      · have hb : (cmpB a[i] b[i] != 0) = true := by simpa using h
        simp only [hb, cnd_true, ne_eq, h, not_false_eq_true, if_true]
    · have e : f71_B2 m a b (i : Int) = some (.brk (i : Int)) := by
        unfold f71_B2 f71_r1
        have : (decide ((i : Int) < (a.length : Int)) && decide ((i : Int) < (b.length : Int))) = false := by
          rw [← Bool.not_eq_true, Bool.and_eq_true, decide_eq_true_eq, decide_eq_true_eq]; omega
        rw [this, cnd_false]
      have hf : fdU (a.drop i) (b.drop i) = none := by
        rcases Nat.lt_or_ge i a.length with hi | hi
        · rw [List.drop_eq_nil_of_le (by omega : b.length ≤ i)]
          cases a.drop i <;> rfl
        · rw [List.drop_eq_nil_of_le hi]; rfl
      rw [hf]
      simp only [e]
      exact ⟨_, rfl⟩
theorem f71_eq (m : Nat) (a b : List ByteArray) (hm : a.length < m) (ha : a.length ≤ 1000000) (hb : b.length ≤ 1000000) : ∃ c, f71 m a b = some c ∧ (c < 0 ↔ cmpT a b < 0) ∧ (c = 0 ↔ a = b) := by
  have h := f71_loop m a b ha m 0 (Nat.zero_le _) (by omega)
  have hc := cmpT_fu a b
  rw [List.drop_zero, List.drop_zero] at h
  unfold f71
  cases hf : fdU a b with
  | some r =>
    rw [hf] at h hc
    have h : iter (fun (y : Int) => f71_B2 m a b y) m 0 = some (.inl r) := h
    rw [h]
    refine ⟨r, rfl, by rw [hc.2], ?_⟩
    rw [← cmpT_eq a b, hc.2]
  | none =>
    rw [hf] at h hc
    obtain ⟨j, h⟩ := h
    have h : iter (fun (y : Int) => f71_B2 m a b y) m 0 = some (.inr j) := h
    rw [h]
    have hw : w64 ((a.length : Int) - (b.length : Int)) = (a.length : Int) - (b.length : Int) := w64_id ⟨by omega, by omega⟩
    refine ⟨_, rfl, ?_, ?_⟩
    · rw [hw, hc.1]; omega
    · rw [hw, ← cmpT_eq a b, hc.2]; omega
theorem f59_eq (m : Nat) (x y : S61) (hm : x.fTags.length < m) (hx : x.fTags.length ≤ 1000000) (hy : y.fTags.length ≤ 1000000) : f59 m x y = some (decide (cmpE x y < 0)) := by
  unfold f59
  rw [cmpE_orr, tl_eq, tl_eq]
  have hless : ∀ a b : ByteArray, Op.bytesLess a.toList b.toList = decide (cmpB a b < 0) := fun a b => by
    rw [Bool.eq_iff_iff, decide_eq_true_eq]; exact (cmpB_lt a b).symm
  by_cases h1 : x.fForm = y.fForm
  · have z1 : cmpB x.fForm y.fForm = 0 := (toB.eq _ _).2 h1
    rw [decide_eq_true h1, Bool.not_true, cnd_false]
    by_cases h2 : x.fBase = y.fBase
    · have z2 : cmpB x.fBase y.fBase = 0 := (toB.eq _ _).2 h2
      rw [decide_eq_true h2, Bool.not_true, cnd_false]
      obtain ⟨c, c1, c2, c3⟩ := f71_eq m x.fTags y.fTags hm hx hy
      rw [c1, bnd_some']
      by_cases h3 : x.fTags = y.fTags
      · have z3 : cmpT x.fTags y.fTags = 0 := (cmpT_eq _ _).2 h3
        have hc : c = 0 := c3.2 h3
        subst hc
        have : orr [cmpB x.fForm y.fForm, cmpB x.fBase y.fBase, cmpT x.fTags y.fTags, cmpI x.fWeight y.fWeight] = cmpI x.fWeight y.fWeight := by
          simp only [orr, z1, z2, z3, ne_eq, not_true, if_false]
          split <;> omega
        rw [this, show ((0 : Int) != 0) = false from rfl, cnd_false]
        congr 1
        rw [Bool.eq_iff_iff, decide_eq_true_eq, decide_eq_true_eq]
        unfold cmpI
        split
        · simp; omega
        · split <;> simp <;> omega
      · have z3 : cmpT x.fTags y.fTags ≠ 0 := fun e => h3 ((cmpT_eq _ _).1 e)
        have hc : c ≠ 0 := fun e => h3 (c3.1 e)
        have hb : (c != 0) = true := by simpa using hc
        rw [hb, cnd_true]
        have : orr [cmpB x.fForm y.fForm, cmpB x.fBase y.fBase, cmpT x.fTags y.fTags, cmpI x.fWeight y.fWeight] = cmpT x.fTags y.fTags := by
          simp only [orr, z1, z2, z3, ne_eq, not_true, not_false_eq_true, if_false, if_true]
        rw [this]
        congr 1
        rw [Bool.eq_iff_iff, decide_eq_true_eq, decide_eq_true_eq]; exact c2
    · have z2 : cmpB x.fBase y.fBase ≠ 0 := fun e => h2 ((toB.eq _ _).1 e)
      rw [decide_eq_false h2, Bool.not_false, cnd_true, hless]
      have : orr [cmpB x.fForm y.fForm, cmpB x.fBase y.fBase, cmpT x.fTags y.fTags, cmpI x.fWeight y.fWeight] = cmpB x.fBase y.fBase := by
        simp only [orr, z1, z2, ne_eq, not_true, not_false_eq_true, if_false, if_true]
      rw [this]
  · have z1 : cmpB x.fForm y.fForm ≠ 0 := fun e => h1 ((toB.eq _ _).1 e)
    rw [decide_eq_false h1, Bool.not_false, cnd_true, hless]
    have : orr [cmpB x.fForm y.fForm, cmpB x.fBase y.fBase, cmpT x.fTags y.fTags, cmpI x.fWeight y.fWeight] = cmpB x.fForm y.fForm := by
      simp only [orr, z1, ne_eq, not_false_eq_true, if_true]
    rw [this]
/-! ### the second writing of the faults -/
theorem f28_item (m : Nat) (a0 : S51) (i j : Nat) (x : S90) (hm : 4001 < m) (hi : i ≤ 1000) (hj : j ≤ 1000) (hn : a0.fClasses.length ≤ 1000) :
    (bnd (f38 m x.fBase) fun v460 => bnd (cnd (!v460) (some true) (bnd (f38 m x.fForm) fun v499 => some (!v499))) fun v468 => f28_r5 m a0 (i : Int) (j : Int) x v468) = if itemBad a0.fClasses.length x ≠ 0 then some (.ret (⟨itemBad a0.fClasses.length x, (i : Int)⟩ : S27)) else some (.nxt (w64 ((j : Int) + 1))) := by
  rw [f38_eq m _ hm, bnd_some', f38_eq m _ hm]
  unfold itemBad
  cases hb : partS x.fBase with
  | false => simp [f28_r5, f36]
  | true =>
    cases hf : partS x.fForm with
    | false => simp [f28_r5, f36]
    | true =>
      simp only [Bool.not_true, cnd_false, bnd_some', Bool.and_self, Bool.false_eq_true, if_false, f28_r5, f37_eq m x.fTags (by omega), tagsS]
      by_cases ht : x.fTags.length > 4
      · simp [ht, f36]
      · rw [if_neg ht, if_neg ht]
        cases ha : x.fTags.all nameS with
        | false => simp [f36]
        | true =>
          simp only [if_true, Bool.not_true, Bool.false_eq_true, if_false, bne_self_eq_false, cnd_false, f28_r4, f28_r3, f28_r2]
          have hc : ((((decide (x.fNext < -1) || decide (x.fNext ≥ (a0.fClasses.length : Int))) || decide (x.fWeight < 0)) || decide (x.fWeight > 1000000)) = true) ↔ (x.fNext < -1 ∨ (a0.fClasses.length : Int) ≤ x.fNext ∨ x.fWeight < 0 ∨ 1000000 < x.fWeight) := by
            simp only [Bool.or_eq_true, decide_eq_true_eq, or_assoc, ge_iff_le, gt_iff_lt]
          by_cases h : x.fNext < -1 ∨ (a0.fClasses.length : Int) ≤ x.fNext ∨ x.fWeight < 0 ∨ 1000000 < x.fWeight
          · rw [hc.2 h, cnd_true, if_pos h]; simp [f36]
          · have h' : (((decide (x.fNext < -1) || decide (x.fNext ≥ (a0.fClasses.length : Int))) || decide (x.fWeight < 0)) || decide (x.fWeight > 1000000)) = false := by
              rw [← Bool.not_eq_true, hc]; exact h
            rw [h', cnd_false, if_neg h]; simp
theorem f28_names (m : Nat) (a0 : S51) (i : Nat) (c : S88) (hi : i ≤ a0.fClasses.length) (hn : a0.fClasses.length ≤ 40) (hm : 4001 < m) :
    iter (fun (y : Int) => f28_B1 m a0 (i : Int) c y) m 0 = if (a0.fClasses.take i).any (fun d => decide (d.fName = c.fName)) then some (.inl (⟨7, (i : Int)⟩ : S27)) else some (.inr (i : Int)) := by
  have htl : (a0.fClasses.take i).length = i := by rw [List.length_take]; omega
  have e1 : iter (fun (y : Int) => f28_B1 m a0 (i : Int) c y) m 0 = landed (fun (_ : Unit) (i : Int) => i) (a0.fClasses.take i).length (scan (fun _ (_ : Unit) (d : S88) => if !(decide (d.fName = c.fName)) then some (.inr ()) else some (.inl (⟨7, (i : Int)⟩ : S27))) 0 () (a0.fClasses.take i)) := by
    refine iter_scan (a0.fClasses.take i) (fun (y : Int) => f28_B1 m a0 (i : Int) c y) (fun (_ : Unit) (i : Int) => i) _ (fun u k hk => ?_) m 0 () (by omega) (by omega)
    have hb : f28_B1 m a0 (i : Int) c (k : Int) = cnd (decide ((k : Int) < ((a0.fClasses.take i).length : Int))) (bnd (idx (a0.fClasses.take i) (k : Int)) fun v360 => cnd ((v360.fName.toList == c.fName.toList)) (bnd (f36 m 7 (i : Int)) fun v361 => some (.ret v361)) (some (.nxt (w64 ((k : Int) + 1))))) (some (.brk (k : Int))) := by
      unfold f28_B1
      rw [htl]
      by_cases hki : k < i
      · rw [idx_get, idx_get, List.getElem?_take_of_lt hki]
      · rw [decide_eq_false (by omega), cnd_false, cnd_false]
    rw [hb]
    refine body_turn rfl fun d hd => ?_
    have hw : w64 ((k : Int) + 1) = (k : Int) + 1 := w64_id ⟨by omega, by omega⟩
    rw [tl_eq]
    by_cases h : d.fName = c.fName
    · simp [h, f36]
    · simp [h, hw]
  rw [e1, scan_all (fun d : S88 => !(decide (d.fName = c.fName)))]
  cases hex : (a0.fClasses.take i).any (fun d => decide (d.fName = c.fName)) with
  | true =>
    have : ((a0.fClasses.take i).all fun d => !(decide (d.fName = c.fName))) = false := by
      rw [← Bool.not_eq_true, List.all_eq_true]
      intro h
      obtain ⟨d, hd, he⟩ := List.any_eq_true.1 hex
      have := h d hd
      rw [he] at this; cases this
    rw [this]
    simp [landed]
  | false =>
    have : ((a0.fClasses.take i).all fun d => !(decide (d.fName = c.fName))) = true := by
      rw [List.all_eq_true]
      intro d hd
      have := List.any_eq_false.1 hex d hd
      simpa using this
    rw [this, htl]
    simp [landed]
theorem f28_eq (m : Nat) (a0 : S51) (hm : 4001 < m) : f28 m a0 = some (lexF a0.fClasses) := by
  unfold f28 f28_r8 lexF
  by_cases h : a0.fClasses.length < 1 ∨ 40 < a0.fClasses.length
  · have : (((a0.fClasses.length : Int) == 0) || decide ((a0.fClasses.length : Int) > 40)) = true := by
      simp only [Bool.or_eq_true, decide_eq_true_eq, beq_iff_eq]; omega
    rw [this, cnd_true, if_pos h]; rfl
  · have : (((a0.fClasses.length : Int) == 0) || decide ((a0.fClasses.length : Int) > 40)) = false := by
      rw [← Bool.not_eq_true]; simp only [Bool.or_eq_true, decide_eq_true_eq, beq_iff_eq]; omega
    rw [this, cnd_false, if_neg h]
    have e : iter (fun (y : Int) => f28_B7 m a0 y) m 0 = landed (fun (_ : Unit) (i : Int) => i) a0.fClasses.length (scan (fun (i : Int) (_ : Unit) (c : S88) => if classBad a0.fClasses i.toNat c ≠ 0 then some (.inl (⟨classBad a0.fClasses i.toNat c, i⟩ : S27)) else some (.inr ())) 0 () a0.fClasses) := by
      refine iter_scan a0.fClasses (fun (y : Int) => f28_B7 m a0 y) (fun (_ : Unit) (i : Int) => i) _ (fun u k hk => ?_) m 0 () (by omega) (by omega)
      unfold f28_B7
      refine body_turn rfl fun c hc => ?_
      have hkl := lt_of_getElem? hc
      have hw : w64 ((k : Int) + 1) = (k : Int) + 1 := w64_id ⟨by omega, by omega⟩
      rw [f35_eq m _ (by omega), bnd_some', Int.toNat_natCast, hw]
      unfold classBad
      cases hnm : nameS c.fName with
      | false => simp [f36]
      | true =>
        simp only [Bool.not_true, cnd_false, Bool.false_eq_true, if_false]
        rw [f28_names m a0 k c hk (by omega) hm]
        cases hex : (a0.fClasses.take k).any (fun d => decide (d.fName = c.fName)) with
        | true => simp
        | false =>
          simp only [Bool.false_eq_true, if_false, brk_inr]
          by_cases hl : c.fItems.length > 100
          · rw [decide_eq_true (by omega), cnd_true, if_pos hl]; simp [f36]
          · rw [decide_eq_false (by omega), cnd_false, if_neg hl]
            have e2 : iter (fun (y : Int) => f28_B6 m a0 (k : Int) c y) m 0 = landed (fun (_ : Unit) (i : Int) => i) c.fItems.length (scan (fun _ (_ : Unit) (x : S90) => if itemBad a0.fClasses.length x ≠ 0 then some (.inl ((fun b => (⟨b, (k : Int)⟩ : S27)) (itemBad a0.fClasses.length x))) else some (.inr ())) 0 () c.fItems) := by
              refine iter_scan c.fItems (fun (y : Int) => f28_B6 m a0 (k : Int) c y) (fun (_ : Unit) (i : Int) => i) _ (fun u j hj => ?_) m 0 () (by omega) (by omega)
              unfold f28_B6
              refine body_turn rfl fun x hx => ?_
              have hwj : w64 ((j : Int) + 1) = (j : Int) + 1 := w64_id ⟨by omega, by omega⟩
              rw [f28_item m a0 k j x hm (by omega) (by omega) (by omega)]
              by_cases h : itemBad a0.fClasses.length x = 0
              · simp [h, hwj]
              · simp [h]
            rw [e2, scan_firstC (itemBad a0.fClasses.length) (fun b => (⟨b, (k : Int)⟩ : S27))]
            by_cases h : firstC (itemBad a0.fClasses.length) c.fItems = 0
            · simp [h, landed]
            · simp [h, landed]
    rw [e]
    have hsc := scan_lex a0.fClasses a0.fClasses 0
    rw [show ((0 : Nat) : Int) = 0 from rfl] at hsc
    rw [hsc]
    by_cases hz : (lexFrom a0.fClasses 0 a0.fClasses).fCode = 0
    · rw [if_neg (by simp [hz]), (lexFrom_zero _ _ _ hz).1]; rfl
    · rw [if_pos hz]; rfl
end Go.Abs
end
section
namespace Go.Abs
open Go.Sort Go.Proofs
set_option linter.unusedVariables false

/-- a loop by what holds at each turn -/
theorem iter_run {R A : Type} (B : A → Option (Stp R A)) (P : Nat → A → Prop) (QR : R → Prop) (QB : A → Prop) (n : Nat)
    (h : ∀ i a, i ≤ n → P i a → (∃ r, B a = some (.ret r) ∧ QR r) ∨ (∃ a', B a = some (.brk a') ∧ QB a') ∨ (i < n ∧ ∃ a', B a = some (.nxt a') ∧ P (i + 1) a')) :
    ∀ (K i : Nat) (a : A), i ≤ n → n - i < K → P i a → (∃ r, iter B K a = some (.inl r) ∧ QR r) ∨ (∃ a', iter B K a = some (.inr a') ∧ QB a')
  | 0, i, a, h1, h2, _ => by omega
  | K + 1, i, a, h1, h2, hp => by
    unfold iter
    rcases h i a h1 hp with ⟨r, e, q⟩ | ⟨a', e, q⟩ | ⟨hi, a', e, q⟩
    · rw [e]; exact .inl ⟨r, rfl, q⟩
    · rw [e]; exact .inr ⟨a', rfl, q⟩
    · rw [e]; exact iter_run B P QR QB n h K (i + 1) a' hi (by omega) q

/-! ### one more, in order -/
def pos (z : S61) : List S61 → Nat
  | [] => 0
  | y :: r => if cmpE y z < 0 then pos z r + 1 else 0
def insE (z : S61) : List S61 → List S61
  | [] => [z]
  | y :: r => if cmpE y z < 0 then y :: insE z r else if cmpE z y < 0 then z :: y :: r else y :: r
theorem pos_le (z : S61) : ∀ l, pos z l ≤ l.length
  | [] => Nat.le_refl _
  | y :: r => by
    unfold pos
    split
    · have := pos_le z r; simp only [List.length_cons]; omega
    · omega
theorem insE_pos (z : S61) : ∀ l, insE z l = if ∃ y, l[pos z l]? = some y ∧ ¬ cmpE z y < 0 then l else l.take (pos z l) ++ [z] ++ l.drop (pos z l)
  | [] => by simp [insE, pos]
  | y :: r => by
    by_cases h : cmpE y z < 0
    · have ih := insE_pos z r
      have hp : pos z (y :: r) = pos z r + 1 := by simp only [pos, h, if_true]
      rw [hp]
      simp only [insE, h, if_true, List.getElem?_cons_succ, List.take_succ_cons, List.drop_succ_cons, List.cons_append]
      rw [ih]
      split <;> rfl
    · have hp : pos z (y :: r) = 0 := by simp only [pos, h, if_false]
      rw [hp]
      by_cases g : cmpE z y < 0
      · have hn : ¬ ∃ y', (y :: r)[0]? = some y' ∧ ¬ cmpE z y' < 0 := by
          rintro ⟨y', e1, e2⟩
          simp at e1; subst e1; exact e2 g
        rw [if_neg hn]
        simp [insE, h, g]
      · rw [if_pos ⟨y, rfl, g⟩]
        simp only [insE, h, g, if_false]
theorem insE_mem (z : S61) : ∀ l x, x ∈ insE z l ↔ x = z ∨ x ∈ l
  | [], x => by simp [insE]
  | y :: r, x => by
    simp only [insE]
    split
    · rw [List.mem_cons, insE_mem z r x, List.mem_cons]
      constructor
      · rintro (h | h | h)
        · exact .inr (.inl h)
        · exact .inl h
        · exact .inr (.inr h)
      · rintro (h | h | h)
        · exact .inr (.inl h)
        · exact .inl h
        · exact .inr (.inr h)
    · split
      · rw [List.mem_cons]
      · rename_i h g
        have : z = y := by
          by_cases e : cmpE z y = 0
          · exact (toE.eq z y).1 e
          · have := (toE.sw y z).2 (by omega)
            omega
        subst this
        simp
theorem insE_strict (z : S61) : ∀ l : List S61, l.Pairwise (fun a b => cmpE a b < 0) → (insE z l).Pairwise (fun a b => cmpE a b < 0)
  | [], _ => by simp [insE]
  | y :: r, h => by
    obtain ⟨h1, h2⟩ := List.pairwise_cons.1 h
    simp only [insE]
    split
    · rename_i g
      refine List.pairwise_cons.2 ⟨fun x hx => ?_, insE_strict z r h2⟩
      rcases (insE_mem z r x).1 hx with rfl | hx
      · exact g
      · exact h1 x hx
    · split
      · rename_i g
        refine List.pairwise_cons.2 ⟨fun x hx => ?_, h⟩
        rcases List.mem_cons.1 hx with rfl | hx
        · exact g
        · exact toE.tr _ _ _ g (h1 x hx)
      · exact h
theorem insE_len (z : S61) : ∀ l, (insE z l).length ≤ l.length + 1
  | [] => by simp [insE]
  | y :: r => by
    simp only [insE]
    split
    · have := insE_len z r; simp only [List.length_cons]; omega
    · split <;> simp only [List.length_cons] <;> omega
theorem strict_ext : ∀ (x y : List S61), x.Pairwise (fun a b => cmpE a b < 0) → y.Pairwise (fun a b => cmpE a b < 0) → (∀ z, z ∈ x ↔ z ∈ y) → x = y
  | [], [], _, _, _ => rfl
  | [], b :: s, _, _, h => by have := (h b).2 List.mem_cons_self; cases this
  | a :: r, [], _, _, h => by have := (h a).1 List.mem_cons_self; cases this
  | a :: r, b :: s, h1, h2, h => by
    obtain ⟨a1, a2⟩ := List.pairwise_cons.1 h1
    obtain ⟨b1, b2⟩ := List.pairwise_cons.1 h2
    have hno : ∀ u v : S61, cmpE u v < 0 → cmpE v u < 0 → False := fun u v p q => by
      have := toE.tr u v u p q
      rw [toE.refl] at this; omega
    have hab : a = b := by
      rcases List.mem_cons.1 ((h a).1 List.mem_cons_self) with e | e
      · exact e
      · rcases List.mem_cons.1 ((h b).2 List.mem_cons_self) with e' | e'
        · exact e'.symm
        · exact (hno a b (a1 b e') (b1 a e)).elim
    subst hab
    have hirr : ∀ u : S61, ¬ cmpE u u < 0 := fun u p => hno u u p p
    rw [strict_ext r s a2 b2 fun z => ⟨fun hz => ?_, fun hz => ?_⟩]
    · rcases List.mem_cons.1 ((h z).1 (List.mem_cons_of_mem _ hz)) with e | e
      · exact (hirr a (by have := a1 z hz; rw [e] at this; exact this)).elim
      · exact e
    · rcases List.mem_cons.1 ((h z).2 (List.mem_cons_of_mem _ hz)) with e | e
      · exact (hirr a (by have := b1 z hz; rw [e] at this; exact this)).elim
      · exact e

/-! ### the place -/
theorem pos_loop (m : Nat) (row : S92) (found : List S61) (x : S90) (b f : ByteArray) (t : List ByteArray) (z : S61) (hz : (⟨b, f, t, w64 (row.fE.fWeight + x.fWeight)⟩ : S61) = z) (hm : 1000 < m) (hf : found.length ≤ 1000) (ht : ∀ y ∈ found, y.fTags.length ≤ 124) (hzt : z.fTags.length ≤ 124) :
    ∀ (K i : Nat), i ≤ found.length → found.length - i < K → iter (fun (y : Int) => f29_B3 m row found x b f t y) K (i : Int) = some (.inr (((i + pos z (found.drop i)) : Nat) : Int))
  | 0, i, h1, h2 => by omega
  | K + 1, i, h1, h2 => by
    unfold iter
    rcases Nat.lt_or_ge i found.length with hi | hi
    · have hw : w64 ((i : Int) + 1) = ((i + 1 : Nat) : Int) := by rw [w64_id ⟨by omega, by omega⟩]; omega
      have hd : found.drop i = found[i] :: found.drop (i + 1) := List.drop_eq_getElem_cons hi
      have e : f29_B3 m row found x b f t (i : Int) = cnd (decide (cmpE found[i] z < 0)) (some (.nxt ((i + 1 : Nat) : Int))) (some (.brk (i : Int))) := by
        unfold f29_B3 f29_r2
        have h59 := f59_eq m found[i] z (by have := ht _ (List.getElem_mem hi); omega) (by have := ht _ (List.getElem_mem hi); omega) (by omega)
        rw [decide_eq_true (by omega : (i : Int) < (found.length : Int)), cnd_true, idx_get, List.getElem?_eq_getElem hi, bnd_some', hz, h59, bnd_some', bnd_some', hw]
      rw [hd]
      simp only [e, pos]
      by_cases h : cmpE found[i] z < 0
      · simp only [h, decide_true, cnd_true, if_true]
        have ih := pos_loop m row found x b f t z hz hm hf ht hzt K (i + 1) hi (by omega)
        simp only [ih]
        congr 3; omega
      · simp only [h, decide_false, cnd_false, if_false, Nat.add_zero]
    · have hd : found.drop i = [] := List.drop_eq_nil_of_le hi
      have e : f29_B3 m row found x b f t (i : Int) = some (.brk (i : Int)) := by
        unfold f29_B3 f29_r2
        rw [decide_eq_false (by omega : ¬ (i : Int) < (found.length : Int)), cnd_false, bnd_some', cnd_false]
      rw [hd]
      simp only [e, pos, Nat.add_zero]
/-! ### how many rows there are -/
def icnt (f : Int → Nat) (x : S90) : Nat := 1 + if 0 ≤ x.fNext then f x.fNext else 0
def cntL (l : List S88) : Nat → Int → Nat
  | 0, _ => 0
  | k + 1, cls => match idx l cls with
    | some c => (c.fItems.map (icnt (cntL l k))).sum
    | none => 0
def IR (l : List S88) (k : Nat) (e : S61) (x : S90) (z : S61) : Prop := (x.fNext < 0 ∧ z = stepE e x) ∨ (0 ≤ x.fNext ∧ Rch l k x.fNext (stepE e x) z)
abbrev BS : Type := List S61 × Int × List S92
def NR (l : List S88) (k : Nat) (rows : List S92) (z : S61) : Prop := ∃ r, r ∈ rows ∧ Rch l k r.fClass r.fE z
def NC (l : List S88) (k : Nat) (rows : List S92) : Nat := (rows.map fun r => cntL l k r.fClass).sum
/-- what holds between the rows -/
structure BI (l : List S88) (k j : Nat) (s : BS) (M : S61 → Prop) (T : Int) : Prop where
  ord : s.1.Pairwise fun a b => cmpE a b < 0
  lo : 0 ≤ s.2.1
  hi : s.2.1 ≤ 600
  fl : (s.1.length : Int) ≤ s.2.1
  nl : (s.2.2.length : Int) ≤ s.2.1 + 1
  tags : ∀ y ∈ s.1, y.fTags.length ≤ 124
  rows : ∀ r ∈ s.2.2, 0 ≤ r.fClass ∧ r.fClass < (l.length : Int) ∧ Bd j r.fE
  mem : ∀ z, (z ∈ s.1 ∨ NR l k s.2.2 z) ↔ M z
  tot : s.2.1 + (NC l k s.2.2 : Int) = T
theorem BI.imp {l : List S88} {k j : Nat} {s : BS} {M M' : S61 → Prop} {T T' : Int} (h : BI l k j s M T) (hM : ∀ z, M z ↔ M' z) (hT : T = T') : BI l k j s M' T' :=
  ⟨h.ord, h.lo, h.hi, h.fl, h.nl, h.tags, h.rows, fun z => (h.mem z).trans (hM z), h.tot.trans hT⟩
/-- one item more -/
def stI (e : S61) (s : BS) (x : S90) : BS := if 0 ≤ x.fNext then (s.1, s.2.1 + 1, s.2.2 ++ [⟨x.fNext, stepE e x⟩]) else (insE (stepE e x) s.1, s.2.1 + 1, s.2.2)
theorem BI.step {l : List S88} {k j : Nat} {s : BS} {M : S61 → Prop} {T : Int} (h : BI l k (j + 1) s M T) {e : S61} {x : S90} (hx : OkI l.length x) (he : Bd (j + 1) (stepE e x)) (hj : j ≤ 30) (hc : s.2.1 + 1 ≤ 600) :
    BI l k (j + 1) (stI e s x) (fun z => M z ∨ IR l k e x z) (T + (icnt (cntL l k) x : Int)) := by
  obtain ⟨h1, h2, h3, h4, h5, h6, h7, h8, h9⟩ := h
  unfold stI
  by_cases hn : 0 ≤ x.fNext
  · rw [if_pos hn]
    refine ⟨h1, by show (0 : Int) ≤ s.2.1 + 1; omega, hc, by show (s.1.length : Int) ≤ s.2.1 + 1; omega, ?_, h6, fun r hr => ?_, fun z => ?_, ?_⟩
    · show ((s.2.2 ++ [(⟨x.fNext, stepE e x⟩ : S92)]).length : Int) ≤ s.2.1 + 1 + 1
      rw [List.length_append]; simp only [List.length_cons, List.length_nil]; omega
    · rcases List.mem_append.1 hr with hr | hr
      · exact h7 r hr
      · rw [List.mem_singleton.1 hr]; exact ⟨hn, hx.next.2, he⟩
    · show (z ∈ s.1 ∨ NR l k (s.2.2 ++ [(⟨x.fNext, stepE e x⟩ : S92)]) z) ↔ _
      rw [← h8 z]
      have hno : ¬ x.fNext < 0 := by omega
      simp only [NR, IR, hno, false_and, false_or, hn, true_and, List.mem_append, List.mem_singleton]
      constructor
      · rintro (a | ⟨r, (a | a), b⟩)
        · exact .inl (.inl a)
        · exact .inl (.inr ⟨r, a, b⟩)
        · subst a; exact .inr b
      · rintro ((a | ⟨r, a, b⟩) | a)
        · exact .inl a
        · exact .inr ⟨r, .inl a, b⟩
        · exact .inr ⟨_, .inr rfl, a⟩
    · show s.2.1 + 1 + (NC l k (s.2.2 ++ [(⟨x.fNext, stepE e x⟩ : S92)]) : Int) = _
      have : NC l k (s.2.2 ++ [(⟨x.fNext, stepE e x⟩ : S92)]) = NC l k s.2.2 + cntL l k x.fNext := by
        unfold NC; simp
      rw [this, ← h9]
      unfold icnt
      rw [if_pos hn]
      omega
  · rw [if_neg hn]
    refine ⟨insE_strict _ _ h1, by show (0 : Int) ≤ s.2.1 + 1; omega, hc, ?_, by show (s.2.2.length : Int) ≤ s.2.1 + 1 + 1; omega, fun y hy => ?_, h7, fun z => ?_, ?_⟩
    · show ((insE (stepE e x) s.1).length : Int) ≤ s.2.1 + 1
      have := insE_len (stepE e x) s.1; omega
    · rcases (insE_mem _ _ y).1 hy with rfl | hy
      · have := he.tags; omega
      · exact h6 y hy
    · show (z ∈ insE (stepE e x) s.1 ∨ NR l k s.2.2 z) ↔ _
      rw [← h8 z, insE_mem]
      have hyes : x.fNext < 0 := by omega
      simp only [IR, hyes, true_and, hn, false_and, or_false]
      constructor
      · rintro ((a | a) | a)
        · exact .inr a
        · exact .inl (.inl a)
        · exact .inl (.inr a)
      · rintro ((a | a) | a)
        · exact .inl (.inr a)
        · exact .inr a
        · exact .inl (.inl a)
    · show s.2.1 + 1 + (NC l k s.2.2 : Int) = _
      rw [← h9]
      unfold icnt
      rw [if_neg hn]
      omega
theorem f29_item (m : Nat) (l : List S88) (row : S92) (c : S88) (i : Nat) (x : S90) (hxi : c.fItems[i]? = some x) {k j : Nat} {s : BS} {M : S61 → Prop} {T : Int} (h : BI l k (j + 1) s M T) (hx : OkI l.length x) (he : Bd j row.fE) (hj : j ≤ 29) (hm : 4001 < m) (hil : c.fItems.length ≤ 1000) :
    f29_B5 m row c s.1 s.2.1 s.2.2 (i : Int) = if s.2.1 + 1 > 600 then some (.ret ([], false)) else some (.nxt ((stI row.fE s x).1, (stI row.fE s x).2.1, (stI row.fE s x).2.2, ((i + 1 : Nat) : Int))) := by
  have hi := lt_of_getElem? hxi
  have h1 := h.lo
  have h2 := h.hi
  have h3 := h.fl
  have h4 := h.nl
  have hw : w64 (s.2.1 + 1) = s.2.1 + 1 := w64_id ⟨by omega, by omega⟩
  have hwi : w64 ((i : Int) + 1) = ((i + 1 : Nat) : Int) := by rw [w64_id ⟨by omega, by omega⟩]; omega
  obtain ⟨x1, x2, x3, _⟩ := hx
  obtain ⟨e1, e2, e3⟩ := he
  unfold f29_B5
  rw [decide_eq_true (by omega : (i : Int) < (c.fItems.length : Int)), cnd_true, idx_get, hxi, bnd_some', hw]
  by_cases hc : s.2.1 + 1 > 600
  · rw [decide_eq_true hc, cnd_true, if_pos hc]
  · rw [decide_eq_false hc, cnd_false, if_neg hc]
    have s1 : scat row.fE.fBase x.fBase = some (row.fE.fBase ++ x.fBase) := by unfold scat; rw [if_pos (by unfold maxLen; omega)]
    have s2 : scat row.fE.fForm x.fForm = some (row.fE.fForm ++ x.fForm) := by unfold scat; rw [if_pos (by unfold maxLen; omega)]
    have s3 : app 16 [] row.fE.fTags = some row.fE.fTags := by rw [app_some 16 [] row.fE.fTags (by simp only [List.length_nil]; omega) (by simp only [List.length_nil]; omega), List.nil_append]
    have s4 : app 16 row.fE.fTags x.fTags = some (row.fE.fTags ++ x.fTags) := app_some 16 _ _ (by omega) (by omega)
    rw [s1, bnd_some', s2, bnd_some', s3, bnd_some', s4, bnd_some']
    unfold stI
    by_cases hn : 0 ≤ x.fNext
    · rw [decide_eq_true (by omega : x.fNext ≥ 0), cnd_true, if_pos hn, app_some 72 s.2.2 _ (by simp only [List.length_cons, List.length_nil]; omega) (by simp only [List.length_cons, List.length_nil]; omega), bnd_some']
      unfold f29_j1
      rw [hw, hwi]; rfl
    · rw [decide_eq_false (by omega : ¬ x.fNext ≥ 0), cnd_false, if_neg hn]
      have hzt : (stepE row.fE x).fTags.length ≤ 124 := by
        show (row.fE.fTags ++ x.fTags).length ≤ 124
        rw [List.length_append]; omega
      have hl := pos_loop m row s.1 x (row.fE.fBase ++ x.fBase) (row.fE.fForm ++ x.fForm) (row.fE.fTags ++ x.fTags) (stepE row.fE x) rfl (by omega) (by omega) h.tags hzt m 0 (Nat.zero_le _) (by omega)
      rw [List.drop_zero, Nat.zero_add] at hl
      have hl : iter (fun (y : Int) => f29_B3 m row s.1 x (row.fE.fBase ++ x.fBase) (row.fE.fForm ++ x.fForm) (row.fE.fTags ++ x.fTags) y) m 0 = some (.inr ((pos (stepE row.fE x) s.1 : Nat) : Int)) := hl
      rw [hl, brk_inr, insE_pos]
      have hpl := pos_le (stepE row.fE x) s.1
      generalize pos (stepE row.fE x) s.1 = p at hpl
      have hstep : (⟨row.fE.fBase ++ x.fBase, row.fE.fForm ++ x.fForm, row.fE.fTags ++ x.fTags, w64 (row.fE.fWeight + x.fWeight)⟩ : S61) = stepE row.fE x := rfl
      have hput : f29_r4 m row s.1 s.2.1 s.2.2 (i : Int) x (row.fE.fBase ++ x.fBase) (row.fE.fForm ++ x.fForm) (row.fE.fTags ++ x.fTags) (p : Int) false = some (.nxt (s.1.take p ++ [stepE row.fE x] ++ s.1.drop p, s.2.1 + 1, s.2.2, ((i + 1 : Nat) : Int))) := by
        unfold f29_r4
        have hs1 : sub s.1 0 (p : Int) = some (s.1.take p) := by
          unfold sub
          rw [if_pos ⟨by omega, by omega, by omega⟩, Int.toNat_natCast]; simp
        have hs2 : sub s.1 (p : Int) (s.1.length : Int) = some (s.1.drop p) := by
          unfold sub
          rw [if_pos ⟨by omega, by omega, by omega⟩, Int.toNat_natCast, Int.toNat_natCast, List.take_of_length_le (by rw [List.length_drop]; omega)]
        have htk : (s.1.take p).length = p := by rw [List.length_take]; omega
        have hdl : (s.1.drop p).length = s.1.length - p := List.length_drop
        rw [cnd_false, hs1, bnd_some', app_some 64 [] _ (by simp only [List.length_nil]; omega) (by simp only [List.length_nil]; omega), bnd_some', List.nil_append, app_some 64 (s.1.take p) _ (by simp only [List.length_cons, List.length_nil]; omega) (by simp only [List.length_cons, List.length_nil]; omega), bnd_some', hs2, bnd_some', hstep,
          app_some 64 _ (s.1.drop p) (by rw [List.length_append]; simp only [List.length_cons, List.length_nil]; omega) (by rw [List.length_append]; simp only [List.length_cons, List.length_nil]; omega), bnd_some']
        unfold f29_j1
        rw [hw, hwi]
      by_cases hp : p < s.1.length
      · have hgp : s.1[p]? = some s.1[p] := List.getElem?_eq_getElem hp
        have h59 := f59_eq m (stepE row.fE x) s.1[p] (by omega) (by omega) (by have := h.tags _ (List.getElem_mem hp); omega)
        rw [decide_eq_true (by omega : (p : Int) < (s.1.length : Int)), cnd_true, idx_get, hgp, bnd_some', hstep, h59, bnd_some', bnd_some']
        by_cases hlt : cmpE (stepE row.fE x) s.1[p] < 0
        · rw [decide_eq_true hlt, Bool.not_true, hput, if_neg]
          rintro ⟨y, g1, g2⟩
          cases g1
          exact g2 hlt
        · rw [decide_eq_false hlt, Bool.not_false, if_pos ⟨_, rfl, hlt⟩]
          unfold f29_r4 f29_j1
          rw [cnd_true, hw, hwi]
      · have hgp : s.1[p]? = none := List.getElem?_eq_none (by omega)
        rw [decide_eq_false (by omega : ¬ (p : Int) < (s.1.length : Int)), cnd_false, bnd_some', hput, if_neg]
        rintro ⟨y, g1, _⟩
        rw [hgp] at g1; cases g1
end Go.Abs
end
section
namespace Go.Abs
open Go.Sort Go.Proofs
set_option linter.unusedVariables false

/-! ### the items of a row -/
theorem take_snoc {α : Type} {l : List α} {i : Nat} {x : α} (h : l[i]? = some x) : l.take (i + 1) = l.take i ++ [x] := by
  rw [List.take_add_one, h]; rfl
theorem f29_row (m : Nat) (l : List S88) (row : S92) (c : S88) (hc : ∀ x ∈ c.fItems, OkI l.length x) (hl : c.fItems.length ≤ 100) {k j : Nat} {s : BS} {M : S61 → Prop} {T : Int} (h : BI l k (j + 1) s M T) (he : Bd j row.fE) (hj : j ≤ 29) (hm : 4001 < m) :
    (∃ r, iter (fun (y : (List S61) × Int × (List S92) × Int) => f29_B5 m row c y.1 y.2.1 y.2.2.1 y.2.2.2) m (s.1, s.2.1, s.2.2, 0) = some (.inl r) ∧ r = ([], false)) ∨
    (∃ a, iter (fun (y : (List S61) × Int × (List S92) × Int) => f29_B5 m row c y.1 y.2.1 y.2.2.1 y.2.2.2) m (s.1, s.2.1, s.2.2, 0) = some (.inr a) ∧ BI l k (j + 1) (a.1, a.2.1, a.2.2.1) (fun z => M z ∨ ∃ x, x ∈ c.fItems ∧ IR l k row.fE x z) (T + ((c.fItems.map (icnt (cntL l k))).sum : Int))) := by
  have key := iter_run (fun (y : (List S61) × Int × (List S92) × Int) => f29_B5 m row c y.1 y.2.1 y.2.2.1 y.2.2.2)
    (fun i a => a.2.2.2 = (i : Int) ∧ BI l k (j + 1) (a.1, a.2.1, a.2.2.1) (fun z => M z ∨ ∃ x, x ∈ c.fItems.take i ∧ IR l k row.fE x z) (T + (((c.fItems.take i).map (icnt (cntL l k))).sum : Int)))
    (fun r => r = (([], false) : List S61 × Bool))
    (fun a => BI l k (j + 1) (a.1, a.2.1, a.2.2.1) (fun z => M z ∨ ∃ x, x ∈ c.fItems ∧ IR l k row.fE x z) (T + ((c.fItems.map (icnt (cntL l k))).sum : Int)))
    c.fItems.length (fun i a hi hp => ?_) m 0 (s.1, s.2.1, s.2.2, 0) (Nat.zero_le _) (by omega) ⟨rfl, h.imp (fun z => by simp) (by simp)⟩
  · exact key
  · obtain ⟨a1, a2, a3, a4⟩ := a
    obtain ⟨h4, hb⟩ := hp
    have h4 : a4 = (i : Int) := h4
    subst h4
    rcases Nat.lt_or_ge i c.fItems.length with hlt | hge
    · have hxi : c.fItems[i]? = some c.fItems[i] := List.getElem?_eq_getElem hlt
      generalize c.fItems[i] = x at hxi
      have hx := hc x (List.mem_of_getElem? hxi)
      have e := f29_item m l row c i x hxi hb hx he hj hm (by omega)
      by_cases hcnt : a2 + 1 > 600
      · rw [if_pos hcnt] at e
        exact .inl ⟨_, e, rfl⟩
      · rw [if_neg hcnt] at e
        refine .inr (.inr ⟨hlt, _, e, rfl, ?_⟩)
        have hbd := (nextE_eq (m := 3) (Nat.le_refl _) hx he (by omega)).2
        refine (hb.step hx hbd (by omega) (by show a2 + 1 ≤ (600 : Int); omega)).imp (fun z => ?_) ?_
        · rw [take_snoc hxi]
          simp only [List.mem_append, List.mem_singleton]
          constructor
          · rintro ((a | ⟨y, a, b⟩) | a)
            · exact .inl a
            · exact .inr ⟨y, .inl a, b⟩
            · exact .inr ⟨x, .inr rfl, a⟩
          · rintro (a | ⟨y, (a | a), b⟩)
            · exact .inl (.inl a)
            · exact .inl (.inr ⟨y, a, b⟩)
            · subst a; exact .inr b
        · rw [take_snoc hxi]; simp; omega
    · obtain rfl : i = c.fItems.length := by omega
      refine .inr (.inl ⟨(a1, a2, a3, (c.fItems.length : Int)), ?_, ?_⟩)
      · show f29_B5 m row c a1 a2 a3 (c.fItems.length : Int) = _
        unfold f29_B5
        rw [decide_eq_false (by omega), cnd_false]
      · rw [List.take_length] at hb; exact hb
/-! ### the rows of a depth -/
theorem f29_rows (m : Nat) (a0 : S51) (ho : OkL a0.fClasses) (hm : 4001 < m) {k j : Nat} (hj : j ≤ 29) {M : S61 → Prop} {T : Int} (found : List S61) (count : Int) (rows : List S92) (h : BI a0.fClasses (k + 1) j (found, count, rows) M T) :
    (∃ r, iter (fun (y : (List S61) × Int × (List S92) × Int) => f29_B6 m a0 rows y.1 y.2.1 y.2.2.1 y.2.2.2) m (found, count, [], 0) = some (.inl r) ∧ r = ([], false)) ∨
    (∃ a, iter (fun (y : (List S61) × Int × (List S92) × Int) => f29_B6 m a0 rows y.1 y.2.1 y.2.2.1 y.2.2.2) m (found, count, [], 0) = some (.inr a) ∧ BI a0.fClasses k (j + 1) (a.1, a.2.1, a.2.2.1) M T) := by
  have hnl := h.nl
  have hhi := h.hi
  have hnl : (rows.length : Int) ≤ count + 1 := hnl
  have hhi : count ≤ (600 : Int) := hhi
  have hst0 : ((([] : List S92).length : Nat) : Int) ≤ count + 1 := by
    have := h.lo
    have : (0 : Int) ≤ count := this
    show ((0 : Nat) : Int) ≤ count + 1
    omega
  have hstart : BI a0.fClasses k (j + 1) (found, count, []) (fun z => z ∈ found ∨ ∃ r, r ∈ rows.take 0 ∧ Rch a0.fClasses (k + 1) r.fClass r.fE z) (count + (((rows.take 0).map fun r => cntL a0.fClasses (k + 1) r.fClass).sum : Int)) :=
    ⟨h.ord, h.lo, h.hi, h.fl, hst0, h.tags, fun r hr => (nomatch hr), fun z => by simp [NR], by simp [NC]⟩
  have key := iter_run (fun (y : (List S61) × Int × (List S92) × Int) => f29_B6 m a0 rows y.1 y.2.1 y.2.2.1 y.2.2.2)
    (fun i a => a.2.2.2 = (i : Int) ∧ BI a0.fClasses k (j + 1) (a.1, a.2.1, a.2.2.1) (fun z => z ∈ found ∨ ∃ r, r ∈ rows.take i ∧ Rch a0.fClasses (k + 1) r.fClass r.fE z) (count + (((rows.take i).map fun r => cntL a0.fClasses (k + 1) r.fClass).sum : Int)))
    (fun r => r = (([], false) : List S61 × Bool))
    (fun a => BI a0.fClasses k (j + 1) (a.1, a.2.1, a.2.2.1) (fun z => z ∈ found ∨ ∃ r, r ∈ rows ∧ Rch a0.fClasses (k + 1) r.fClass r.fE z) (count + ((rows.map fun r => cntL a0.fClasses (k + 1) r.fClass).sum : Int)))
    rows.length (fun i a hi hp => ?_) m 0 (found, count, [], 0) (Nat.zero_le _) (by omega) ⟨rfl, hstart⟩
  · rcases key with hk | ⟨a, e, hk⟩
    · exact .inl hk
    · exact .inr ⟨a, e, hk.imp (fun z => h.mem z) h.tot⟩
  · obtain ⟨a1, a2, a3, a4⟩ := a
    obtain ⟨h4, hb⟩ := hp
    have h4 : a4 = (i : Int) := h4
    subst h4
    rcases Nat.lt_or_ge i rows.length with hlt | hge
    · have hri : rows[i]? = some rows[i] := List.getElem?_eq_getElem hlt
      generalize rows[i] = row at hri
      have hw : w64 ((i : Int) + 1) = ((i + 1 : Nat) : Int) := by rw [w64_id ⟨by omega, by omega⟩]; omega
      obtain ⟨r1, r2, r3⟩ := h.rows row (List.mem_of_getElem? hri)
      obtain ⟨c, hc⟩ : ∃ c, idx a0.fClasses row.fClass = some c := by
        unfold idx
        rw [if_pos r1]
        exact ⟨_, List.getElem?_eq_getElem (by omega)⟩
      have hcm : c ∈ a0.fClasses := by
        unfold idx at hc
        rw [if_pos r1] at hc
        exact List.mem_of_getElem? hc
      have hok : ∀ x ∈ c.fItems, OkI a0.fClasses.length x := fun x hx => itemBad_ok (ho.item c hcm x hx)
      have e0 : f29_B6 m a0 rows a1 a2 a3 (i : Int) = brk (iter (fun (y : (List S61) × Int × (List S92) × Int) => f29_B5 m row c y.1 y.2.1 y.2.2.1 y.2.2.2) m (a1, a2, a3, 0)) (fun r => some (.ret r)) fun y2513 => some (.nxt (y2513.1, y2513.2.1, y2513.2.2.1, w64 ((i : Int) + 1))) := by
        unfold f29_B6
        rw [decide_eq_true (by omega : (i : Int) < (rows.length : Int)), cnd_true, idx_get, hri, bnd_some', hc, bnd_some']
      rcases f29_row m a0.fClasses row c hok (ho.items c hcm) hb r3 hj hm with ⟨r, e, rfl⟩ | ⟨a, e, hn⟩
      · refine .inl ⟨_, ?_, rfl⟩
        show f29_B6 m a0 rows a1 a2 a3 (i : Int) = _
        rw [e0]
        have e : iter (fun (y : (List S61) × Int × (List S92) × Int) => f29_B5 m row c y.1 y.2.1 y.2.2.1 y.2.2.2) m (a1, a2, a3, 0) = some (.inl ([], false)) := e
        rw [e]; rfl
      · refine .inr (.inr ⟨hlt, (a.1, a.2.1, a.2.2.1, ((i + 1 : Nat) : Int)), ?_, rfl, ?_⟩)
        · show f29_B6 m a0 rows a1 a2 a3 (i : Int) = _
          rw [e0]
          have e : iter (fun (y : (List S61) × Int × (List S92) × Int) => f29_B5 m row c y.1 y.2.1 y.2.2.1 y.2.2.2) m (a1, a2, a3, 0) = some (.inr a) := e
          rw [e, brk_inr, hw]
        · refine hn.imp (fun z => ?_) ?_
          · rw [take_snoc hri]
            simp only [List.mem_append, List.mem_singleton]
            have hR : Rch a0.fClasses (k + 1) row.fClass row.fE z ↔ ∃ x, x ∈ c.fItems ∧ IR a0.fClasses k row.fE x z := by
              constructor
              · rintro ⟨c', hc', x, hx, hz⟩
                rw [hc] at hc'; cases hc'
                exact ⟨x, hx, hz⟩
              · rintro ⟨x, hx, hz⟩
                exact ⟨c, hc, x, hx, hz⟩
            rw [← hR]
            constructor
            · rintro ((a | ⟨y, a, b⟩) | a)
              · exact .inl a
              · exact .inr ⟨y, .inl a, b⟩
              · exact .inr ⟨row, .inr rfl, a⟩
            · rintro (a | ⟨y, (a | a), b⟩)
              · exact .inl (.inl a)
              · exact .inl (.inr ⟨y, a, b⟩)
              · subst a; exact .inr b
          · rw [take_snoc hri]
            have hcnt : cntL a0.fClasses (k + 1) row.fClass = (c.fItems.map (icnt (cntL a0.fClasses k))).sum := by
              simp only [cntL, hc]
            rw [List.map_append, List.sum_append, List.map_singleton, List.sum_singleton, hcnt]
            omega
    · obtain rfl : i = rows.length := by omega
      refine .inr (.inl ⟨(a1, a2, a3, (rows.length : Int)), ?_, ?_⟩)
      · show f29_B6 m a0 rows a1 a2 a3 (rows.length : Int) = _
        unfold f29_B6
        rw [decide_eq_false (by omega), cnd_false]
      · rw [List.take_length] at hb; exact hb
/-! ### all depths -/
theorem f29_eq (m : Nat) (a0 : S51) (a1 : Int) (ho : OkL a0.fClasses) (h1 : 1 ≤ a1) (h2 : a1 ≤ 30) (hm : 4001 < m) :
    f29 m a0 a1 = some ([], false) ∨ ∃ found, f29 m a0 a1 = some (found, true) ∧ found.Pairwise (fun a b => cmpE a b < 0) ∧ found.length ≤ 600 ∧ (∀ y ∈ found, y.fTags.length ≤ 124) ∧ (∀ z, z ∈ found ↔ Rch a0.fClasses a1.toNat 0 zE z) ∧ cntL a0.fClasses a1.toNat 0 ≤ 600 := by
  obtain ⟨n, rfl⟩ : ∃ n : Nat, a1 = (n : Int) := ⟨a1.toNat, by omega⟩
  rw [Int.toNat_natCast]
  have hlen := ho.len
  have hstart : BI a0.fClasses (n - 0) 0 ([], 0, [⟨0, zE⟩]) (fun z => Rch a0.fClasses n 0 zE z) (cntL a0.fClasses n 0 : Int) :=
    ⟨List.Pairwise.nil, Int.le_refl _, by show (0 : Int) ≤ 600; omega, by show ((0 : Nat) : Int) ≤ 0; omega, by show ((1 : Nat) : Int) ≤ 0 + 1; omega, fun y hy => (nomatch hy), fun r hr => by
      rw [List.mem_singleton.1 hr]
      exact ⟨by show (0 : Int) ≤ 0; omega, by show (0 : Int) < (a0.fClasses.length : Int); omega, by show (0 : Nat) ≤ _; omega, by show (0 : Nat) ≤ _; omega, by show (0 : Nat) ≤ _; omega⟩, fun z => by simp [NR], by simp [NC]⟩
  have key := iter_run (fun (y : (List S92) × (List S61) × Int × Int) => f29_B7 m a0 (n : Int) y.1 y.2.1 y.2.2.1 y.2.2.2)
    (fun i a => a.2.2.2 = (i : Int) ∧ BI a0.fClasses (n - i) i (a.2.1, a.2.2.1, a.1) (fun z => Rch a0.fClasses n 0 zE z) (cntL a0.fClasses n 0 : Int))
    (fun r => r = (([], false) : List S61 × Bool))
    (fun a => BI a0.fClasses 0 n (a.2.1, a.2.2.1, a.1) (fun z => Rch a0.fClasses n 0 zE z) (cntL a0.fClasses n 0 : Int))
    n (fun i a hi hp => ?_) m 0 ([⟨0, zE⟩], [], 0, 0) (Nat.zero_le _) (by omega) ⟨rfl, hstart⟩
  · unfold f29
    rcases key with ⟨r, e, rfl⟩ | ⟨a, e, hb⟩
    · have e : iter (fun (y : (List S92) × (List S61) × Int × Int) => f29_B7 m a0 (n : Int) y.1 y.2.1 y.2.2.1 y.2.2.2) m ([(⟨0, (⟨ByteArray.empty, ByteArray.empty, [], 0⟩ : S61)⟩ : S92)], [], 0, 0) = some (.inl ([], false)) := e
      rw [e]; exact .inl rfl
    · have e : iter (fun (y : (List S92) × (List S61) × Int × Int) => f29_B7 m a0 (n : Int) y.1 y.2.1 y.2.2.1 y.2.2.2) m ([(⟨0, (⟨ByteArray.empty, ByteArray.empty, [], 0⟩ : S61)⟩ : S92)], [], 0, 0) = some (.inr a) := e
      rw [e, brk_inr]
      refine .inr ⟨a.2.1, rfl, hb.ord, ?_, hb.tags, fun z => ?_, ?_⟩
      · have x1 := hb.fl
        have x2 := hb.hi
        have x1 : (a.2.1.length : Int) ≤ a.2.2.1 := x1
        have x2 : a.2.2.1 ≤ (600 : Int) := x2
        omega
      · rw [← hb.mem z]
        simp [NR, Rch]
      · have x1 := hb.tot
        have x2 := hb.hi
        have x1 : a.2.2.1 + (NC a0.fClasses 0 a.1 : Int) = (cntL a0.fClasses n 0 : Int) := x1
        have x2 : a.2.2.1 ≤ (600 : Int) := x2
        have x3 : NC a0.fClasses 0 a.1 = 0 := by
          unfold NC
          have : (a.1.map fun r => cntL a0.fClasses 0 r.fClass) = a.1.map fun _ => 0 := rfl
          rw [this, List.map_const', List.sum_replicate_nat]
          simp
        omega
  · obtain ⟨a1, a2, a3, a4⟩ := a
    obtain ⟨h4, hb⟩ := hp
    have h4 : a4 = (i : Int) := h4
    subst h4
    rcases Nat.lt_or_ge i n with hlt | hge
    · have hw : w64 ((i : Int) + 1) = ((i + 1 : Nat) : Int) := by rw [w64_id ⟨by omega, by omega⟩]; omega
      have hb' : BI a0.fClasses ((n - (i + 1)) + 1) i (a2, a3, a1) (fun z => Rch a0.fClasses n 0 zE z) (cntL a0.fClasses n 0 : Int) := by
        rw [show n - (i + 1) + 1 = n - i by omega]; exact hb
      have e0 : f29_B7 m a0 (n : Int) a1 a2 a3 (i : Int) = brk (iter (fun (y : (List S61) × Int × (List S92) × Int) => f29_B6 m a0 a1 y.1 y.2.1 y.2.2.1 y.2.2.2) m (a2, a3, [], 0)) (fun r => some (.ret r)) fun y2516 => some (.nxt (y2516.2.2.1, y2516.1, y2516.2.1, w64 ((i : Int) + 1))) := by
        unfold f29_B7
        rw [decide_eq_true (by omega : (i : Int) < (n : Int)), cnd_true]
      rcases f29_rows m a0 ho hm (by omega) a2 a3 a1 hb' with ⟨r, e, rfl⟩ | ⟨a, e, hn⟩
      · refine .inl ⟨_, ?_, rfl⟩
        show f29_B7 m a0 (n : Int) a1 a2 a3 (i : Int) = _
        rw [e0, e]; rfl
      · refine .inr (.inr ⟨hlt, (a.2.2.1, a.1, a.2.1, ((i + 1 : Nat) : Int)), ?_, rfl, hn⟩)
        show f29_B7 m a0 (n : Int) a1 a2 a3 (i : Int) = _
        rw [e0, e, brk_inr, hw]
    · obtain rfl : i = n := by omega
      refine .inr (.inl ⟨(a1, a2, a3, (i : Int)), ?_, ?_⟩)
      · show f29_B7 m a0 (i : Int) a1 a2 a3 (i : Int) = _
        unfold f29_B7
        rw [decide_eq_false (by omega), cnd_false]
      · rw [Nat.sub_self] at hb; exact hb
/-! ### as many steps -/
def Rec2 (l : List S88) (k : Nat) (rec : Int → S61 → Fst → Option (Bool × Fst)) (P : S61 → Prop) : Prop :=
  ∀ (cls : Int) (e : S61) (s : Fst), 0 ≤ cls → cls < (l.length : Int) → P e → 0 ≤ s.2 → (s.1.length : Int) ≤ s.2 → s.2 + (cntL l k cls : Int) ≤ 20000 → ∃ s', rec cls e s = some (true, s') ∧ s'.2 = s.2 + (cntL l k cls : Int) ∧ (s'.1.length : Int) ≤ s'.2
theorem itemsL_cnt {m j k : Nat} (hm : 3 ≤ m) (l : List S88) (rec : Int → S61 → Fst → Option (Bool × Fst)) (hr : Rec2 l k rec (Bd (j + 1))) (e : S61) (he : Bd j e) (hj : j ≤ 30) :
    ∀ (xs : List S90) (s : Fst), (∀ x ∈ xs, OkI l.length x) → 0 ≤ s.2 → (s.1.length : Int) ≤ s.2 → s.2 + ((xs.map (icnt (cntL l k))).sum : Int) ≤ 20000 → ∃ s', itemsL m rec e xs s = some (true, s') ∧ s'.2 = s.2 + ((xs.map (icnt (cntL l k))).sum : Int) ∧ (s'.1.length : Int) ≤ s'.2
  | [], s, _, _, hs, _ => ⟨s, rfl, by simp, hs⟩
  | x :: r, s, hx, h0, hs, hb => by
    have hx0 := hx x List.mem_cons_self
    rw [List.map_cons, List.sum_cons] at hb ⊢
    have hi1 : 1 ≤ icnt (cntL l k) x := by unfold icnt; omega
    have hw : w64 (s.2 + 1) = s.2 + 1 := w64_id ⟨by omega, by omega⟩
    simp only [itemsL, hw]
    rw [decide_eq_false (by omega : ¬ s.2 + 1 > 20000), cnd_false]
    obtain ⟨n1, n2⟩ := nextE_eq hm hx0 he hj
    rw [n1, bnd_some']
    by_cases hn : x.fNext < 0
    · have hic : icnt (cntL l k) x = 1 := by unfold icnt; rw [if_neg (by omega)]
      rw [hic] at hb ⊢
      rw [decide_eq_true hn, cnd_true, app_some 64 s.1 [stepE e x] (by simp only [List.length_cons, List.length_nil]; omega) (by simp only [List.length_cons, List.length_nil]; omega), bnd_some']
      obtain ⟨s', e1, e2, e3⟩ := itemsL_cnt hm l rec hr e he hj r (s.1 ++ [stepE e x], s.2 + 1) (fun y hy => hx y (List.mem_cons_of_mem _ hy)) (by show (0 : Int) ≤ s.2 + 1; omega) (by show ((s.1 ++ [stepE e x]).length : Int) ≤ s.2 + 1; rw [List.length_append]; simp only [List.length_cons, List.length_nil]; omega) (by show s.2 + 1 + _ ≤ (20000 : Int); omega)
      refine ⟨s', e1, ?_, e3⟩
      rw [e2]
      show s.2 + 1 + _ = _
      omega
    · have hic : icnt (cntL l k) x = 1 + cntL l k x.fNext := by unfold icnt; rw [if_pos (by omega)]
      rw [hic] at hb ⊢
      rw [decide_eq_false hn, cnd_false]
      obtain ⟨s1, g1, g2, g3⟩ := hr x.fNext (stepE e x) (s.1, s.2 + 1) (by omega) hx0.next.2 n2 (by show (0 : Int) ≤ s.2 + 1; omega) (by show (s.1.length : Int) ≤ s.2 + 1; omega) (by show s.2 + 1 + _ ≤ (20000 : Int); omega)
      have g2 : s1.2 = s.2 + 1 + (cntL l k x.fNext : Int) := g2
      rw [g1, bnd_some']
      show ∃ s', cnd (!true) _ _ = _ ∧ _
      rw [Bool.not_true, cnd_false]
      obtain ⟨s', e1, e2, e3⟩ := itemsL_cnt hm l rec hr e he hj r s1 (fun y hy => hx y (List.mem_cons_of_mem _ hy)) (by omega) g3 (by omega)
      exact ⟨s', e1, by rw [e2]; omega, e3⟩
theorem followL_cnt {m : Nat} (hm : 3 ≤ m) (l : List S88) (hi : ∀ c ∈ l, ∀ x ∈ c.fItems, OkI l.length x) : ∀ (k : Nat), k ≤ 30 → Rec2 l k (followL m ⟨l⟩ k) (Bd (30 - k))
  | 0, _ => fun cls e s h1 h2 he h0 hs hb => ⟨s, rfl, by simp [cntL], hs⟩
  | k + 1, hk => fun cls e s h1 h2 he h0 hs hb => by
    have ih := followL_cnt hm l hi k (by omega)
    rw [show 30 - k = (30 - (k + 1)) + 1 by omega] at ih
    obtain ⟨c, hc⟩ : ∃ c, idx l cls = some c := by
      unfold idx
      rw [if_pos h1]
      exact ⟨_, List.getElem?_eq_getElem (by omega)⟩
    have hcm : c ∈ l := by
      unfold idx at hc
      rw [if_pos h1] at hc
      exact List.mem_of_getElem? hc
    have hcnt : cntL l (k + 1) cls = (c.fItems.map (icnt (cntL l k))).sum := by simp only [cntL, hc]
    rw [hcnt] at hb ⊢
    obtain ⟨s', e1, e2, e3⟩ := itemsL_cnt hm l (followL m ⟨l⟩ k) ih e he (by omega) c.fItems s (hi c hcm) h0 hs hb
    refine ⟨s', ?_, e2, e3⟩
    show bnd (idx l cls) _ = _
    rw [hc, bnd_some']; exact e1
end Go.Abs
end
section
namespace Go.Abs
open Go.Sort Go.Proofs
set_option linter.unusedVariables false

theorem finE_eq {s : Fst} (h : GF s) : finE s.1 = (if ((compactL (srtC cmpE s.1)).length : Int) > 300 then some ([], ⟨17, -1⟩) else some (compactL (srtC cmpE s.1), ⟨0, 0⟩)) ∧ (compactL (srtC cmpE s.1)).Pairwise (fun a b => cmpE a b < 0) ∧ ∀ z, z ∈ compactL (srtC cmpE s.1) ↔ z ∈ s.1 := by
  obtain ⟨h1, h2, h3, h4⟩ := h
  have hs : smallL s.1 = true := by
    unfold smallL
    rw [Bool.and_eq_true, List.all_eq_true]
    exact ⟨decide_eq_true (by omega), fun y hy => decide_eq_true (by have := h4 y hy; omega)⟩
  obtain ⟨g1, g2⟩ := compactL_strict (srtC_sorted toE s.1)
  refine ⟨?_, g1, fun z => by rw [g2 z]; exact (srtC_perm s.1).mem_iff⟩
  unfold finE
  rw [hs, cnd_true]
  by_cases hc : ((compactL (srtC cmpE s.1)).length : Int) > 300
  · rw [decide_eq_true hc, cnd_true, if_pos hc]
  · rw [decide_eq_false hc, cnd_false, if_neg hc]
theorem entriesL_bad (l : S51) (most : Int) (h : (lexF l.fClasses).fCode ≠ 0) : entriesL l most = some ([], lexF l.fClasses) := by
  unfold entriesL
  rw [f52_eq MM l (by decide), bnd_some']
  have hz : isz (lexF l.fClasses) = false := by
    unfold isz
    rw [show ((lexF l.fClasses).fCode == 0) = false by simpa using h]; rfl
  rw [hz, Bool.not_false, cnd_true]
theorem entriesL_out (l : S51) (most : Int) (h : (lexF l.fClasses).fCode = 0) (hr : most < 1 ∨ most > 30) : entriesL l most = some ([], ⟨3, -2⟩) := by
  unfold entriesL
  rw [f52_eq MM l (by decide), bnd_some', (lexF_ok h).2]
  have : (decide (most < 1) || decide (most > 30)) = true := by simpa using hr
  rw [show isz ⟨0, 0⟩ = true from rfl, Bool.not_true, cnd_false, this, cnd_true]
theorem entriesL_same (l : S51) (most : Int) (h : (lexF l.fClasses).fCode = 0) (h1 : 1 ≤ most) (h2 : most ≤ 30) (hcnt : cntL l.fClasses most.toNat 0 ≤ 600) (found : List S61) (hord : found.Pairwise fun a b => cmpE a b < 0) (hmem : ∀ z, z ∈ found ↔ Rch l.fClasses most.toNat 0 zE z) :
    entriesL l most = if (found.length : Int) > 300 then some ([], ⟨17, -1⟩) else some (found, ⟨0, 0⟩) := by
  obtain ⟨ho, he⟩ := lexF_ok h
  have hlen := ho.len
  unfold entriesL
  rw [f52_eq MM l (by decide), bnd_some', he]
  have hr : (decide (most < 1) || decide (most > 30)) = false := by
    rw [← Bool.not_eq_true]; simp; omega
  have hil : (l.fClasses.all fun c => decide (c.fItems.length ≤ 1000000)) = true := List.all_eq_true.2 fun c hc => decide_eq_true (by have := ho.items c hc; omega)
  rw [show isz ⟨0, 0⟩ = true from rfl, Bool.not_true, cnd_false, hr, cnd_false, hil, cnd_true]
  have hb : Bd (30 - most.toNat) zE := ⟨by show (0 : Nat) ≤ _; omega, by show (0 : Nat) ≤ _; omega, by show (0 : Nat) ≤ _; omega⟩
  have hi : ∀ c ∈ l.fClasses, ∀ x ∈ c.fItems, OkI l.fClasses.length x := fun c hc x hx => itemBad_ok (ho.item c hc x hx)
  obtain ⟨p, p1, p2, p3⟩ := followL_ok (m := MM) (by decide) l.fClasses hi most.toNat (by omega) 0 zE ([], 0) (by omega) (by omega) hb ⟨Int.le_refl _, by decide, by decide, fun y hy => (nomatch hy)⟩ (by decide)
  obtain ⟨s', q1, _, _⟩ := followL_cnt (m := MM) (by decide) l.fClasses hi most.toNat (by omega) 0 zE ([], 0) (by omega) (by omega) hb (Int.le_refl _) (by decide) (by show (0 : Int) + _ ≤ 20000; omega)
  have hp : p = (true, s') := by
    have : some p = some (true, s') := by rw [← p1, ← q1]
    exact Option.some.inj this
  subst hp
  rw [p1, bnd_some']
  show cnd (!true) _ (finE s'.1) = _
  rw [Bool.not_true, cnd_false]
  obtain ⟨f1, f2, f3⟩ := finE_eq p2
  have hs := (p3 rfl).2
  have hsame : compactL (srtC cmpE s'.1) = found := strict_ext _ _ f2 hord fun z => by
    have := hs z
    have this : z ∈ s'.1 ↔ z ∈ ([] : List S61) ∨ Rch l.fClasses most.toNat 0 zE z := this
    rw [f3 z, this, hmem z]; simp
  rw [hsame] at f1
  exact f1
theorem plain9 (a0 : S51) (a1 : Int) : f9 60000 a0 a1 = some true := by
  unfold f9
  rw [f26_true _ (by decide), bnd_some', Bool.not_true, cnd_false]
  show bnd (entriesL a0 a1) _ = _
  rw [f28_eq 60000 a0 (by decide)]
  by_cases hf : (lexF a0.fClasses).fCode = 0
  · obtain ⟨ho, he⟩ := lexF_ok hf
    by_cases hr : a1 < 1 ∨ a1 > 30
    · rw [entriesL_out a0 a1 hf hr, bnd_some', bnd_some', he]
      have : (decide (a1 < 1) || decide (a1 > 30)) = true := by simpa using hr
      rw [this]; rfl
    · have hr' : (decide (a1 < 1) || decide (a1 > 30)) = false := by
        rw [← Bool.not_eq_true]; simpa using hr
      rcases f29_eq 60000 a0 a1 ho (by omega) (by omega) (by decide) with h | ⟨found, h, h1, h2, h3, h4, h5⟩
      · obtain ⟨v, hv⟩ : ∃ v, entriesL a0 a1 = some v := by
          rcases entriesL_ok a0 a1 with ⟨f, e, _⟩ | ⟨o, e, _⟩
          · exact ⟨_, e⟩
          · exact ⟨_, e⟩
        rw [hv, bnd_some', bnd_some', he, hr']
        show f9_r5 60000 a0 a1 v false = _
        unfold f9_r5
        rw [cnd_false, h]; rfl
      · rw [entriesL_same a0 a1 hf (by omega) (by omega) h5 found h1 h4]
        by_cases hc : (found.length : Int) > 300
        · rw [if_pos hc, bnd_some', bnd_some', he, hr']
          show f9_r5 60000 a0 a1 ([], ⟨17, -1⟩) false = _
          unfold f9_r5
          rw [cnd_false, h, bnd_some']
          show cnd (!true) _ (cnd (decide ((found.length : Int) > 300)) _ _) = _
          rw [Bool.not_true, cnd_false, decide_eq_true hc, cnd_true]; rfl
        · rw [if_neg hc, bnd_some', bnd_some', he, hr']
          show f9_r5 60000 a0 a1 (found, ⟨0, 0⟩) false = _
          unfold f9_r5
          rw [cnd_false, h, bnd_some']
          show cnd (!true) _ (cnd (decide ((found.length : Int) > 300)) _ (bnd (cnd true (bnd (f30 60000 found found) fun v44 => some v44) (some false)) fun v42 => f9_r4 60000 v42)) = _
          rw [Bool.not_true, cnd_false, decide_eq_false hc, cnd_false, cnd_true, f30_eq 60000 found found (by decide) (by omega) (by omega) (fun x hx => by have := h3 x hx; omega), decide_eq_true rfl]
          rfl
  · rw [entriesL_bad a0 a1 hf, bnd_some', bnd_some']
    have hz : (((lexF a0.fClasses).fCode == 0) && (((lexF a0.fClasses).fIndex == 0) && true)) = false := by
      rw [show ((lexF a0.fClasses).fCode == 0) = false by simpa using hf]; rfl
    rw [hz, Bool.not_false, cnd_true]
    unfold f9_r1
    simp
end Go.Abs
end
