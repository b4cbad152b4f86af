import Derived.Test.YthjhdnonlkooiaaDoorLA4
namespace Go.Abs
set_option linter.unusedVariables false
/-! ### words -/
theorem tl_eq (a b : ByteArray) : (a.toList == b.toList) = decide (a = b) := by
  rw [Lib.toList_data, Lib.toList_data]
  by_cases h : a = b
  · subst h; simp
  · have : a.data.toList ≠ b.data.toList := fun e => h (by
      have h2 : a.data = b.data := by rw [← Array.toArray_toList (xs := a.data), e, Array.toArray_toList]
      cases a; cases b; simp only at h2; rw [h2])
    rw [decide_eq_false h]
    simpa using this
def castL (L : List Nat) : List Int := L.map fun n : Nat => (n : Int)
theorem bytN_all (s : ByteArray) (i : Nat) : bytN (s.extract i s.size) = (bytN s).drop i := by
  rw [bytN_extract, List.take_of_length_le (by rw [List.length_drop, bytN_len]; omega)]
theorem f60_loop (m : Nat) (s : ByteArray) (hs : s.size ≤ 4000) : ∀ (K i : Nat) (acc : List Int), i ≤ s.size → s.size - i < K → acc.length ≤ i →
    (∀ L, ptsB ((bytN s).drop i) = some L → iter (fun (y : (List Int) × Int) => f60_B2 m s y.1 y.2) K (acc, (i : Int)) = some (.inr (acc ++ castL L, (s.size : Int)))) ∧
    (ptsB ((bytN s).drop i) = none → ∃ j, iter (fun (y : (List Int) × Int) => f60_B2 m s y.1 y.2) K (acc, (i : Int)) = some (.inl ([], ⟨5, j⟩)))
  | 0, i, acc, h1, h2, h3 => by omega
  | K + 1, i, acc, h1, h2, h3 => by
    by_cases hlt : i < s.size
    · have hne : (bytN s).drop i ≠ [] := fun e => by have := List.drop_eq_nil_iff.1 e; rw [bytN_len] at this; omega
      have hsub : ssub s (i : Int) (s.size : Int) = some (s.extract i s.size) := by
        unfold ssub; rw [if_pos ⟨by omega, by omega, by omega⟩, Int.toNat_natCast, Int.toNat_natCast]
      have hsz : (s.extract i s.size).size = s.size - i := by rw [← bytN_len, bytN_all, List.length_drop, bytN_len]
      have hdec : Lib.decodeGo (s.extract i s.size) = orBad (oneN ((bytN s).drop i)) := by
        unfold Lib.decodeGo
        rw [if_neg (by omega), decode_one _ 0 (by omega), bytN_all, List.drop_zero]
      have e0 : f60_B2 m s acc (i : Int) = f60_r1 m acc (i : Int) (((orBad (oneN ((bytN s).drop i))).1 : Int), ((orBad (oneN ((bytN s).drop i))).2 : Int)) ((((orBad (oneN ((bytN s).drop i))).1 : Int) == 65533) && (decide (((orBad (oneN ((bytN s).drop i))).2 : Int) ≤ 1))) := by
        unfold f60_B2
        rw [decide_eq_true (by omega), cnd_true, hsub]
        simp only [bnd_some', f81, hdec]
      cases hq : oneN ((bytN s).drop i) with
      | none =>
        rw [hq] at e0
        refine ⟨fun L hL => ?_, fun _ => ⟨(i : Int), ?_⟩⟩
        · rw [ptsB_bad hne hq] at hL; cases hL
        · unfold iter
          simp only [e0, orBad]
          rfl
      | some y =>
        obtain ⟨p, w⟩ := y
        rw [hq] at e0
        obtain ⟨g1, g2, g3, g4, g5, _⟩ := oneN_w hq
        rw [List.length_drop, bytN_len] at g3
        have hc : (((p : Int) == 65533) && (decide ((w : Int) ≤ 1))) = false := by
          by_cases hw : w = 1
          · have := g5 hw
            have : ((p : Int) == 65533) = false := by simp only [beq_eq_false_iff_ne, ne_eq]; omega
            rw [this]; rfl
          · rw [decide_eq_false (by omega), Bool.and_false]
        have hw1 : w64 (p : Int) = (p : Int) := w64_id ⟨by omega, by omega⟩
        have hw2 : w64 ((i : Int) + (w : Int)) = ((i + w : Nat) : Int) := by rw [w64_id ⟨by omega, by omega⟩]; omega
        have e1 : f60_B2 m s acc (i : Int) = some (.nxt (acc ++ [(p : Int)], ((i + w : Nat) : Int))) := by
          rw [e0]
          show f60_r1 m acc (i : Int) ((p : Int), (w : Int)) (((p : Int) == 65533) && (decide ((w : Int) ≤ 1))) = _
          rw [hc]
          simp only [f60_r1, cnd_false, hw1, hw2]
          rw [app_some 8 acc [(p : Int)] (by simp only [List.length_cons, List.length_nil]; omega) (by simp only [List.length_cons, List.length_nil]; omega)]
          rfl
        have ih := f60_loop m s hs K (i + w) (acc ++ [(p : Int)]) (by omega) (by omega) (by simp only [List.length_append, List.length_cons, List.length_nil]; omega)
        rw [ptsB_one hq, List.drop_drop]
        refine ⟨fun L hL => ?_, fun hn => ?_⟩
        · obtain ⟨L', hL', rfl⟩ := Option.map_eq_some_iff.1 hL
          have := ih.1 L' hL'
          unfold iter
          simp only [e1]
          rw [this]
          simp [castL]
        · obtain ⟨j, hj⟩ := ih.2 (by simpa using hn)
          refine ⟨j, ?_⟩
          unfold iter
          simp only [e1]
          exact hj
    · have hi : i = s.size := by omega
      have hd : (bytN s).drop i = [] := List.drop_eq_nil_iff.2 (by rw [bytN_len]; omega)
      rw [hd]
      refine ⟨fun L hL => ?_, fun hn => by cases hn⟩
      rw [ptsB_nil] at hL
      cases hL
      unfold iter
      have e0 : f60_B2 m s acc (i : Int) = some (.brk (acc, (i : Int))) := by
        unfold f60_B2
        rw [decide_eq_false (by omega), cnd_false]
      simp only [e0]
      rw [hi]
      simp [castL]
theorem f60_eq (m : Nat) (s : ByteArray) (hm : 4001 < m) : (∀ L, s.size ≤ 4000 → ptsS s = some L → f60 m s = some (castL L, ⟨0, 0⟩)) ∧ ((¬ s.size ≤ 4000 ∨ ptsS s = none) → ∃ c j, c ≠ 0 ∧ f60 m s = some ([], ⟨c, j⟩)) := by
  by_cases hs : s.size ≤ 4000
  · have h := f60_loop m s hs m 0 [] (by omega) (by omega) (Nat.le_refl _)
    rw [List.drop_zero] at h
    have e0 : f60 m s = brk (iter (fun (y : (List Int) × Int) => f60_B2 m s y.1 y.2) m ([], ((0 : Nat) : Int))) some fun y49 => some ((y49.1, (⟨0, 0⟩ : S27))) := by
      unfold f60
      rw [decide_eq_false (by omega), cnd_false]
      rfl
    refine ⟨fun L _ hL => ?_, fun hn => ?_⟩
    · rw [e0, h.1 L hL]; simp
    · rcases hn with hn | hn
      · exact (hn hs).elim
      · obtain ⟨j, hj⟩ := h.2 hn
        exact ⟨5, j, by decide, by rw [e0, hj]; rfl⟩
  · refine ⟨fun L h _ => (hs h).elim, fun _ => ⟨1, -1, by decide, ?_⟩⟩
    unfold f60
    rw [decide_eq_true (by omega)]
    rfl
def badP (p : Nat) : Bool := [0, 9, 10, 32, 40, 41, 91, 93, 44, 59].contains p || decide (983040 ≤ p)
def okP (L : List Nat) : Bool := decide (1 ≤ L.length ∧ L.length ≤ 30) && L.all (fun p => !badP p)
/-- a word -/
def wordS (s : ByteArray) : Bool := decide (s.size ≤ 4000) && match ptsS s with
  | some L => okP L
  | none => false
theorem ix_bad : ∀ p : Nat, p < 128 → decide (Lib.indexByte (⟨#[32, 9, 10, 40, 41, 91, 93, 44, 59]⟩ : ByteArray).data.toList (IntKind.u8.wrap (p : Int)).toNat.toUInt8 ≥ 0) = [9, 10, 32, 40, 41, 91, 93, 44, 59].contains p := by decide +kernel
theorem castL_get {L : List Nat} {i : Nat} {x : Int} (h : (castL L)[i]? = some x) : ∃ p : Nat, x = (p : Int) ∧ p ∈ L := by
  unfold castL at h
  rw [List.getElem?_map] at h
  obtain ⟨p, h1, h2⟩ := Option.map_eq_some_iff.1 h
  exact ⟨p, h2.symm, List.mem_of_getElem? h1⟩
theorem castL_all (L : List Nat) : (castL L).all (fun x => !badP x.toNat) = L.all (fun p => !badP p) := by
  unfold castL
  rw [List.all_map]
  rfl
theorem castL_len (L : List Nat) : (castL L).length = L.length := by unfold castL; rw [List.length_map]
theorem f32_step (m : Nat) (k : Nat) (hk : k ≤ 4000) (p : Nat) (hp : p ≤ 1114111) : f32_r2 m (k : Int) (p : Int) (((p : Int) == 0) || decide ((p : Int) ≥ 983040)) = some (if badP p then Stp.ret false else Stp.nxt ((k : Int) + 1)) := by
  have hw : w64 ((k : Int) + 1) = (k : Int) + 1 := w64_id ⟨by omega, by omega⟩
  unfold f32_r2 f32_r1
  by_cases h1 : p = 0 ∨ 983040 ≤ p
  · have hb : (((p : Int) == 0) || decide ((p : Int) ≥ 983040)) = true := by
      simp only [Bool.or_eq_true, beq_iff_eq, decide_eq_true_eq]; omega
    have hbad : badP p = true := by
      unfold badP
      rcases h1 with h | h
      · subst h; rfl
      · rw [decide_eq_true h, Bool.or_true]
    rw [hb, hbad]
    rfl
  · have hb : (((p : Int) == 0) || decide ((p : Int) ≥ 983040)) = false := by
      simp only [Bool.or_eq_false_iff, beq_eq_false_iff_ne, decide_eq_false_iff_not, ne_eq]; omega
    rw [hb, cnd_false]
    by_cases h2 : p < 128
    · rw [decide_eq_true (by omega : (p : Int) < 128), cnd_true]
      simp only [f61, bnd_some', ix_bad p h2]
      have hbad : badP p = [9, 10, 32, 40, 41, 91, 93, 44, 59].contains p := by
        unfold badP
        rw [decide_eq_false (by omega), Bool.or_false]
        have : (p == 0) = false := by simp; omega
        simp only [List.contains_cons, this, Bool.false_or]
      rw [hbad]
      cases [9, 10, 32, 40, 41, 91, 93, 44, 59].contains p
      · rw [hw]; rfl
      · rfl
    · rw [decide_eq_false (by omega : ¬ (p : Int) < 128), cnd_false]
      have hbad : badP p = false := by
        unfold badP
        rw [decide_eq_false (by omega), Bool.or_false]
        simp only [List.contains_eq_any_beq, List.any_cons, List.any_nil, Bool.or_false, Bool.or_eq_false_iff, beq_eq_false_iff_ne, ne_eq]
        omega
      simp only [bnd_some', hbad, hw]
      rfl
theorem f32_loop (m : Nat) (L : List Nat) (f : S27) (hL : L.length ≤ 4000) (hp : ∀ p ∈ L, p ≤ 1114111) (hm : 4001 < m) :
    iter (fun (y : Int) => f32_B3 m (castL L, f) y) m 0 = if L.all (fun p => !badP p) then some (.inr (L.length : Int)) else some (.inl false) := by
  have e : iter (fun (y : Int) => f32_B3 m (castL L, f) y) m 0 = landed (fun (_ : Unit) (i : Int) => i) (castL L).length (scan (fun _ (_ : Unit) x => if !badP x.toNat then some (.inr ()) else some (.inl false)) 0 () (castL L)) := by
    refine iter_scan (castL L) (fun (y : Int) => f32_B3 m (castL L, f) y) (fun (_ : Unit) (i : Int) => i) (fun _ (_ : Unit) x => if !badP x.toNat then some (.inr ()) else some (.inl false)) (fun u k hi => ?_) m 0 () (by omega) (by rw [castL_len]; omega)
    rw [castL_len] at hi
    refine body_turn rfl fun x hx => ?_
    obtain ⟨p, rfl, hmem⟩ := castL_get hx
    rw [f32_step m k (by omega) p (hp p hmem), Int.toNat_natCast]
    cases badP p <;> rfl
  rw [e, scan_all, castL_all, castL_len]
  cases L.all (fun p => !badP p) <;> rfl
theorem ptsS_len {s : ByteArray} {L : List Nat} (h : ptsS s = some L) : L.length ≤ s.size ∧ s.size ≤ 4 * L.length ∧ ∀ p ∈ L, p ≤ 1114111 := by
  have := ptsB_len _ _ L (Nat.le_refl _) h
  rwa [bytN_len] at this
theorem f32_eq (m : Nat) (s : ByteArray) (hm : 4001 < m) : f32 m s = some (wordS s) := by
  obtain ⟨g1, g2⟩ := f60_eq m s hm
  unfold f32 wordS
  by_cases hs : s.size ≤ 4000
  · cases hq : ptsS s with
    | some L =>
      have hl := ptsS_len hq
      rw [g1 L hs hq]
      simp only [bnd_some', f32_r5, f32_r4, castL_len, okP, beq_self_eq_true, Bool.true_and, Bool.not_true, Bool.false_or, decide_eq_true hs]
      by_cases hc : 1 ≤ L.length ∧ L.length ≤ 30
      · have hb : (decide ((L.length : Int) < 1) || decide ((L.length : Int) > 30)) = false := by
          simp only [Bool.or_eq_false_iff, decide_eq_false_iff_not]; omega
        rw [hb, cnd_false, f32_loop m L _ (by omega) hl.2.2 hm, decide_eq_true hc]
        cases L.all (fun p => !badP p) <;> rfl
      · have hb : (decide ((L.length : Int) < 1) || decide ((L.length : Int) > 30)) = true := by
          simp only [Bool.or_eq_true, decide_eq_true_eq]; omega
        rw [hb, decide_eq_false hc]
        rfl
    | none =>
      obtain ⟨c, j, hc, e⟩ := g2 (.inr hq)
      rw [e]
      have hb : (c == 0) = false := by simpa using hc
      simp only [bnd_some', hb, Bool.false_and, Bool.not_false, Bool.true_or, f32_r5, f32_r4, cnd_true, Bool.and_false]
  · obtain ⟨c, j, hc, e⟩ := g2 (.inl hs)
    rw [e]
    have hb : (c == 0) = false := by simpa using hc
    simp only [bnd_some', hb, Bool.false_and, Bool.not_false, Bool.true_or, f32_r5, f32_r4, cnd_true, decide_eq_false hs]
def badL : List Int := [0, 9, 10, 32, 40, 41, 91, 93, 44, 59]
theorem badL_all (p : Nat) : badL.all (fun y => !((p : Int) == y)) = !([0, 9, 10, 32, 40, 41, 91, 93, 44, 59].contains p) := by
  rw [Bool.eq_iff_iff]
  simp only [badL, List.all_cons, List.all_nil, List.contains_eq_any_beq, List.any_cons, List.any_nil, Bool.and_eq_true, Bool.not_eq_true', Bool.or_eq_false_iff, beq_eq_false_iff_ne, ne_eq, and_true]
  omega
def partS (s : ByteArray) : Bool := decide (s = ⟨#[]⟩) || wordS s
end Go.Abs
