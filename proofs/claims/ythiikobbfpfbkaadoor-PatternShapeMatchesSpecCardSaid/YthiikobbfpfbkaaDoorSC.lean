/-
  PATTERNS, the plain laws: the plain text of a pattern is what Print writes.
-/
import Derived.Test.YthiikobbfpfbkaaDoorPF
namespace Go.Abs
open Go.Sort Go.Proofs
set_option linter.unusedVariables false
set_option maxRecDepth 100000

/-- a text of code points -/
def tx (t : List Nat) : ByteArray := strI (ce t)
theorem strI_app (a b : List Int) : strI (a ++ b) = strI a ++ strI b := by
  refine ByteArray.ext ?_
  rw [ByteArray.data_append]
  unfold strI
  simp
theorem tx_app (a b : List Nat) : tx (a ++ b) = tx a ++ tx b := by unfold tx; rw [ce_app, strI_app]
theorem tx_size (t : List Nat) : (tx t).size ≤ 4 * t.length := by unfold tx; rw [strI_size]; exact ce_len t
theorem scat_tx (a b : List Nat) (h : a.length + b.length ≤ 100000000) : scat (tx a) (tx b) = some (tx (a ++ b)) := by
  have h1 := tx_size a
  have h2 := tx_size b
  unfold scat
  rw [if_pos (by unfold maxLen; omega), tx_app]
theorem tx1 (c : Nat) (h : c < 128) : (⟨#[UInt8.ofNat c]⟩ : ByteArray) = tx [c] := by
  unfold tx
  rw [ce_low h, ce_nil]
  rfl
theorem dig_tx (x : Int) (hx : 0 ≤ x ∧ x ≤ 9) : strI ([IntKind.u8.wrap (w64 (48 + x))]) = tx [48 + x.toNat] := by
  obtain ⟨k, rfl⟩ : ∃ k : Nat, x = (k : Int) := ⟨x.toNat, by omega⟩
  have : k = 0 ∨ k = 1 ∨ k = 2 ∨ k = 3 ∨ k = 4 ∨ k = 5 ∨ k = 6 ∨ k = 7 ∨ k = 8 ∨ k = 9 := by omega
  rcases this with rfl | rfl | rfl | rfl | rfl | rfl | rfl | rfl | rfl | rfl <;> rfl
/-! ### signs -/
def spI : List Int := [40, 41, 91, 93, 124, 38, 45, 42, 43, 63, 123, 125, 44, 92]
theorem f49_loop (m : Nat) (x : Int) : ∀ (M i : Nat), i ≤ 14 → 14 < M + i → iter (fun (y : Int) => f49_B1 m x y) M (i : Int) = some (if (spI.drop i).contains x then .inl true else .inr 14)
  | 0, i, _, _ => by omega
  | M + 1, i, h1, h2 => by
    have hwi : w64 ((i : Int) + 1) = ((i + 1 : Nat) : Int) := by rw [w64_id ⟨by omega, by omega⟩]; omega
    have hl : spI.length = 14 := rfl
    unfold iter f49_B1
    rcases Nat.lt_or_ge i 14 with hlt | hge
    · have hlt' : i < spI.length := by rw [hl]; exact hlt
      have hx := List.getElem?_eq_getElem hlt'
      have hdr := List.drop_eq_getElem_cons hlt'
      generalize spI[i] = y at hx hdr
      have e1 : idx spI (i : Int) = some y := by
        unfold idx
        rw [if_pos (by omega), Int.toNat_natCast]
        exact hx
      have hd : decide ((i : Int) < (([40, 41, 91, 93, 124, 38, 45, 42, 43, 63, 123, 125, 44, 92] : List Nat).length : Int)) = true := decide_eq_true (show (i : Int) < ((14 : Nat) : Int) by omega)
      have e1 : idx ([40, 41, 91, 93, 124, 38, 45, 42, 43, 63, 123, 125, 44, 92] : List Int) (i : Int) = some y := e1
      rw [hd, cnd_true, e1, bnd_some', hdr, List.contains_cons]
      by_cases h : y = x
      · rw [show (y == x) = true by simpa using h, show (x == y) = true by simpa using h.symm, cnd_true]
        rfl
      · rw [show (y == x) = false by simpa using h, show (x == y) = false by simpa using Ne.symm h, cnd_false, Bool.false_or]
        have ih := f49_loop m x M (i + 1) (by omega) (by omega)
        dsimp only
        rw [hwi]
        unfold f49_B1 at ih
        exact ih
    · have : i = 14 := by omega
      subst this
      have hd : decide (((14 : Nat) : Int) < (([40, 41, 91, 93, 124, 38, 45, 42, 43, 63, 123, 125, 44, 92] : List Nat).length : Int)) = false := rfl
      rw [hd, cnd_false]
      rfl
theorem f49_eq (m : Nat) (hm : 100 ≤ m) (p : Nat) : f49 m (p : Int) = some (specL.contains p) := by
  have h := f49_loop m (p : Int) m 0 (by omega) (by omega)
  have h : iter (fun (y : Int) => f49_B1 m (p : Int) y) m 0 = _ := h
  unfold f49
  rw [h, List.drop_zero]
  have e : spI.contains (p : Int) = specL.contains p := by
    simp only [spI, specL, List.contains_eq_any_beq, List.any_cons, List.any_nil]
    have k : ∀ z : Nat, ((p : Int) == (z : Int)) = (p == z) := fun z => by rw [Bool.eq_iff_iff]; simp only [beq_iff_eq]; omega
    have k := fun z => k z
    rw [show ((p : Int) == 40) = (p == 40) from k 40, show ((p : Int) == 41) = (p == 41) from k 41, show ((p : Int) == 91) = (p == 91) from k 91, show ((p : Int) == 93) = (p == 93) from k 93,
      show ((p : Int) == 124) = (p == 124) from k 124, show ((p : Int) == 38) = (p == 38) from k 38, show ((p : Int) == 45) = (p == 45) from k 45, show ((p : Int) == 42) = (p == 42) from k 42,
      show ((p : Int) == 43) = (p == 43) from k 43, show ((p : Int) == 63) = (p == 63) from k 63, show ((p : Int) == 123) = (p == 123) from k 123, show ((p : Int) == 125) = (p == 125) from k 125,
      show ((p : Int) == 44) = (p == 44) from k 44, show ((p : Int) == 92) = (p == 92) from k 92]
  rw [e]
  cases specL.contains p <;> rfl
theorem tdivN (a b : Nat) : Int.tdiv (a : Int) (b : Int) = ((a / b : Nat) : Int) := (Int.ofNat_tdiv a b).symm
theorem tmodN (a b : Nat) : Int.tmod (a : Int) (b : Int) = ((a % b : Nat) : Int) := (Int.ofNat_tmod a b).symm
theorem f59_eq (m : Nat) (hm : 100 ≤ m) (p : Nat) (hp : ScalarN p) : f59 m [(p : Int)] = some (tx [p]) := by
  obtain ⟨h1, h2⟩ := hp
  obtain ⟨M, rfl⟩ : ∃ q, m = q + 2 := ⟨m - 2, by omega⟩
  have ce1 : ce [p] = castL (encN p) := by unfold ce encs; rw [List.flatMap_cons, List.flatMap_nil, List.append_nil]
  have w1 : ∀ n : Nat, n ≤ 2000000 → w64 (n : Int) = (n : Int) := fun n h => w64_id ⟨by omega, by omega⟩
  have a1 : ∀ (c n : Nat), w64 ((c : Int) + (n : Int)) = w64 ((c + n : Nat) : Int) := fun c n => by congr 1
  have dv : ∀ c : Nat, Int.tdiv (p : Int) (c : Int) = ((p / c : Nat) : Int) := fun c => tdivN p c
  have md : ∀ (x c : Nat), Int.tmod (x : Int) (c : Int) = ((x % c : Nat) : Int) := fun x c => tmodN x c
  have body : f59_B6 (M + 2) [(p : Int)] [] 0 = some (.nxt (ce [p], 1)) := by
    unfold f59_B6
    rw [show idx [(p : Int)] 0 = some (p : Int) from rfl, show decide ((0 : Int) < (([(p : Int)].length : Nat) : Int)) = true from rfl, cnd_true, bnd_some', ce1]
    unfold f48 encN
    have fin : ∀ l : List Int, l.length ≤ 4 → (bnd (app 1 [] l) fun v => (some (.nxt (v, w64 (0 + 1))) : Option (Stp ByteArray ((List Int) × Int)))) = some (.nxt (l, 1)) := by
      intro l hl
      rw [app_some 1 [] l (by simp; omega) (by simp; omega)]
      rfl
    by_cases q1 : p < 128
    · rw [decide_eq_true (by omega : (p : Int) < 128), cnd_true, bnd_some', if_pos q1, wrap8]
      have e : p % 256 = p := by omega
      rw [e]
      exact fin [(p : Int)] (by simp)
    rw [decide_eq_false (by omega : ¬ (p : Int) < 128), cnd_false, if_neg q1]
    by_cases q2 : p < 2048
    · rw [decide_eq_true (by omega : (p : Int) < 2048), cnd_true, bnd_some', if_pos q2]
      have e : ([IntKind.u8.wrap (w64 (192 + w64 (Int.tdiv (p : Int) 64))), IntKind.u8.wrap (w64 (128 + Int.tmod (p : Int) 64))] : List Int) = castL [192 + p / 64, 128 + p % 64] := by
        rw [show Int.tdiv (p : Int) 64 = ((p / 64 : Nat) : Int) from dv 64, show Int.tmod (p : Int) 64 = ((p % 64 : Nat) : Int) from md p 64, w1 _ (by omega),
          show w64 (192 + ((p / 64 : Nat) : Int)) = w64 ((192 + p / 64 : Nat) : Int) from a1 192 _, show w64 (128 + ((p % 64 : Nat) : Int)) = w64 ((128 + p % 64 : Nat) : Int) from a1 128 _, w1 _ (by omega), w1 _ (by omega), wrap8, wrap8]
        rw [show (192 + p / 64) % 256 = 192 + p / 64 by omega, show (128 + p % 64) % 256 = 128 + p % 64 by omega]
        rfl
      rw [e]
      exact fin (castL [192 + p / 64, 128 + p % 64]) (by rw [castL_len]; simp)
    rw [decide_eq_false (by omega : ¬ (p : Int) < 2048), cnd_false, if_neg q2]
    by_cases q3 : p < 65536
    · rw [decide_eq_true (by omega : (p : Int) < 65536), cnd_true, bnd_some', if_pos q3]
      have e : ([IntKind.u8.wrap (w64 (224 + w64 (Int.tdiv (p : Int) 4096))), IntKind.u8.wrap (w64 (128 + Int.tmod (w64 (Int.tdiv (p : Int) 64)) 64)), IntKind.u8.wrap (w64 (128 + Int.tmod (p : Int) 64))] : List Int) = castL [224 + p / 4096, 128 + p / 64 % 64, 128 + p % 64] := by
        rw [show Int.tdiv (p : Int) 4096 = ((p / 4096 : Nat) : Int) from dv 4096, show Int.tdiv (p : Int) 64 = ((p / 64 : Nat) : Int) from dv 64, show Int.tmod (p : Int) 64 = ((p % 64 : Nat) : Int) from md p 64, w1 (p / 4096) (by omega), w1 (p / 64) (by omega),
          show Int.tmod ((p / 64 : Nat) : Int) 64 = ((p / 64 % 64 : Nat) : Int) from md (p / 64) 64,
          show w64 (224 + ((p / 4096 : Nat) : Int)) = w64 ((224 + p / 4096 : Nat) : Int) from a1 224 _, show w64 (128 + ((p / 64 % 64 : Nat) : Int)) = w64 ((128 + p / 64 % 64 : Nat) : Int) from a1 128 _,
          show w64 (128 + ((p % 64 : Nat) : Int)) = w64 ((128 + p % 64 : Nat) : Int) from a1 128 _, w1 _ (by omega), w1 _ (by omega), w1 _ (by omega), wrap8, wrap8, wrap8]
        rw [show (224 + p / 4096) % 256 = 224 + p / 4096 by omega, show (128 + p / 64 % 64) % 256 = 128 + p / 64 % 64 by omega, show (128 + p % 64) % 256 = 128 + p % 64 by omega]
        rfl
      rw [e]
      exact fin (castL [224 + p / 4096, 128 + p / 64 % 64, 128 + p % 64]) (by rw [castL_len]; simp)
    · rw [decide_eq_false (by omega : ¬ (p : Int) < 65536), cnd_false, bnd_some', if_neg q3]
      have e : ([IntKind.u8.wrap (w64 (240 + w64 (Int.tdiv (p : Int) 262144))), IntKind.u8.wrap (w64 (128 + Int.tmod (w64 (Int.tdiv (p : Int) 4096)) 64)), IntKind.u8.wrap (w64 (128 + Int.tmod (w64 (Int.tdiv (p : Int) 64)) 64)), IntKind.u8.wrap (w64 (128 + Int.tmod (p : Int) 64))] : List Int) = castL [240 + p / 262144, 128 + p / 4096 % 64, 128 + p / 64 % 64, 128 + p % 64] := by
        rw [show Int.tdiv (p : Int) 262144 = ((p / 262144 : Nat) : Int) from dv 262144, show Int.tdiv (p : Int) 4096 = ((p / 4096 : Nat) : Int) from dv 4096, show Int.tdiv (p : Int) 64 = ((p / 64 : Nat) : Int) from dv 64, show Int.tmod (p : Int) 64 = ((p % 64 : Nat) : Int) from md p 64,
          w1 (p / 262144) (by omega), w1 (p / 4096) (by omega), w1 (p / 64) (by omega),
          show Int.tmod ((p / 64 : Nat) : Int) 64 = ((p / 64 % 64 : Nat) : Int) from md (p / 64) 64, show Int.tmod ((p / 4096 : Nat) : Int) 64 = ((p / 4096 % 64 : Nat) : Int) from md (p / 4096) 64,
          show w64 (240 + ((p / 262144 : Nat) : Int)) = w64 ((240 + p / 262144 : Nat) : Int) from a1 240 _, show w64 (128 + ((p / 4096 % 64 : Nat) : Int)) = w64 ((128 + p / 4096 % 64 : Nat) : Int) from a1 128 _,
          show w64 (128 + ((p / 64 % 64 : Nat) : Int)) = w64 ((128 + p / 64 % 64 : Nat) : Int) from a1 128 _,
          show w64 (128 + ((p % 64 : Nat) : Int)) = w64 ((128 + p % 64 : Nat) : Int) from a1 128 _, w1 _ (by omega), w1 _ (by omega), w1 _ (by omega), w1 _ (by omega), wrap8, wrap8, wrap8, wrap8]
        rw [show (240 + p / 262144) % 256 = 240 + p / 262144 by omega, show (128 + p / 4096 % 64) % 256 = 128 + p / 4096 % 64 by omega, show (128 + p / 64 % 64) % 256 = 128 + p / 64 % 64 by omega, show (128 + p % 64) % 256 = 128 + p % 64 by omega]
        rfl
      rw [e]
      exact fin (castL [240 + p / 262144, 128 + p / 4096 % 64, 128 + p / 64 % 64, 128 + p % 64]) (by rw [castL_len]; simp)
  unfold f59
  unfold iter
  dsimp only
  rw [body]
  dsimp only
  unfold iter
  dsimp only
  have hE : f59_B6 (M + 2) [(p : Int)] (ce [p]) 1 = some (.brk (ce [p], 1)) := rfl
  rw [hE, brk_inr]
  rfl
theorem f41_eq (m : Nat) (hm : 100 ≤ m) (p : Nat) (hp : ScalarN p) : f41 m (p : Int) = some (tx (signs p)) := by
  unfold f41 signs
  rw [f49_eq m hm, bnd_some']
  cases specL.contains p with
  | true =>
    rw [cnd_true, f59_eq m hm p hp, bnd_some', show (⟨#[92]⟩ : ByteArray) = tx [92] from tx1 92 (by omega), scat_tx _ _ (by simp)]
    rfl
  | false =>
    rw [cnd_false, f59_eq m hm p hp]
    rfl
theorem lab_wr (m : Nat) (hm : 100 ≤ m) (K : Rec24) (p : S24) (hl : p.fLabels.length ≤ 300) (hok : ∀ x ∈ p.fLabels, okC x) : ∀ (M i : Nat) (t : List Nat), i ≤ p.fLabels.length → p.fLabels.length < M + i → t.length + 2 * (p.fLabels.length - i) ≤ 1000 →
    iter (fun (y : ByteArray × Int) => f24_B4 m K p y.1 y.2) M (tx t, (i : Int)) = some (.inr (tx (t ++ labT (p.fLabels.drop i)), (p.fLabels.length : Int)))
  | 0, i, t, h1, h2, _ => by omega
  | M + 1, i, t, h1, h2, h3 => by
    have hwi : w64 ((i : Int) + 1) = ((i + 1 : Nat) : Int) := by rw [w64_id ⟨by omega, by omega⟩]; omega
    unfold iter
    dsimp only
    rcases Nat.lt_or_ge i p.fLabels.length with hlt | hge
    · have hx := List.getElem?_eq_getElem hlt
      have e1 : idx p.fLabels (i : Int) = some p.fLabels[i] := by simp [idx, hx]
      obtain ⟨c, hc1, hc2, hc3⟩ := okC_nat (hok _ (List.getElem_mem hlt))
      have hs := signs_len c
      have hB : f24_B4 m K p (tx t) (i : Int) = some (.nxt (tx (t ++ signs c), ((i + 1 : Nat) : Int))) := by
        unfold f24_B4
        rw [decide_eq_true (by omega : (i : Int) < (p.fLabels.length : Int)), cnd_true, e1, bnd_some', hc1, f41_eq m hm c hc2, bnd_some', scat_tx _ _ (by omega), bnd_some', hwi]
      rw [hB]
      have ih := lab_wr m hm K p hl hok M (i + 1) (t ++ signs c) hlt (by omega) (by rw [List.length_append]; omega)
      refine ih.trans ?_
      have e : labT (p.fLabels.drop i) = signs c ++ labT (p.fLabels.drop (i + 1)) := by
        rw [List.drop_eq_getElem_cons hlt, hc1]
        unfold labT
        rw [List.flatMap_cons]
        rfl
      rw [e, List.append_assoc]
    · have : i = p.fLabels.length := by omega
      subst this
      have hB : f24_B4 m K p (tx t) (p.fLabels.length : Int) = some (.brk (tx t, (p.fLabels.length : Int))) := by
        unfold f24_B4
        rw [decide_eq_false (by omega), cnd_false]
      rw [hB, List.drop_length]
      simp [labT]
/-! ### parts -/
def WrOk (K : Rec24) (r : Nat) : Prop := ∀ (q : S24) (n : Nat) (least : Int), Gd r q n → n ≤ 10000 → K.r24 q least = some (tx (tight r q least))
theorem seq_wr (m : Nat) (K : Rec24) (r : Nat) (p : S24) (hlen : p.fSubs.length ≤ 10000) (hK : WrOk K r) : ∀ (M i : Nat) (t : List Nat) (ns : List Nat), i ≤ p.fSubs.length → p.fSubs.length < M + i → F2 (fun q k => Gd r (P24.vw q) k) (p.fSubs.drop i) ns → t.length + 700 * ns.sum ≤ 7000000 →
    iter (fun (y : ByteArray × Int) => f24_B7 m K p y.1 y.2) M (tx t, (i : Int)) = some (.inr (tx (t ++ (p.fSubs.drop i).flatMap fun q => tight r q.vw 4), (p.fSubs.length : Int)))
  | 0, i, t, ns, h1, h2, _, _ => by omega
  | M + 1, i, t, ns, h1, h2, h3, h4 => by
    have hwi : w64 ((i : Int) + 1) = ((i + 1 : Nat) : Int) := by rw [w64_id ⟨by omega, by omega⟩]; omega
    unfold iter
    dsimp only
    by_cases hlt : i < p.fSubs.length
    · have hx := List.getElem?_eq_getElem hlt
      have e1 : idx p.fSubs (i : Int) = some p.fSubs[i] := by simp [idx, hx]
      rw [List.drop_eq_getElem_cons hlt] at h3 ⊢
      cases ns with
      | nil => exact h3.elim
      | cons k ns =>
        rw [List.sum_cons] at h4
        have htl := tight_len 4 h3.1
        have hB : f24_B7 m K p (tx t) (i : Int) = some (.nxt (tx (t ++ tight r p.fSubs[i].vw 4), ((i + 1 : Nat) : Int))) := by
          unfold f24_B7
          rw [decide_eq_true (by omega : (i : Int) < (p.fSubs.length : Int)), cnd_true, e1, bnd_some', hK p.fSubs[i].vw k 4 h3.1 (by omega), bnd_some', scat_tx _ _ (by omega), bnd_some', hwi]
        rw [hB]
        have ih := seq_wr m K r p hlen hK M (i + 1) (t ++ tight r p.fSubs[i].vw 4) ns hlt (by omega) h3.2 (by rw [List.length_append]; omega)
        refine ih.trans ?_
        rw [List.append_assoc, List.flatMap_cons]
    · have : i = p.fSubs.length := by omega
      subst this
      have hB : f24_B7 m K p (tx t) (p.fSubs.length : Int) = some (.brk (tx t, (p.fSubs.length : Int))) := by
        unfold f24_B7
        rw [decide_eq_false (by omega), cnd_false]
      rw [hB, List.drop_length]
      simp
theorem alt_wr (m : Nat) (K : Rec24) (r : Nat) (p : S24) (hlen : p.fSubs.length ≤ 10000) (hK : WrOk K r) : ∀ (M i : Nat) (t : List Nat) (ns : List Nat), 1 ≤ i → i ≤ p.fSubs.length → p.fSubs.length < M + i → F2 (fun q k => Gd r (P24.vw q) k) (p.fSubs.drop i) ns → t.length + 701 * ns.sum ≤ 7010000 →
    iter (fun (y : ByteArray × Int) => f24_B10 m K p y.1 y.2) M (tx t, (i : Int)) = some (.inr (tx (t ++ (p.fSubs.drop i).flatMap fun q => 124 :: tight r q.vw 2), (p.fSubs.length : Int)))
  | 0, i, t, ns, _, h1, h2, _, _ => by omega
  | M + 1, i, t, ns, h0, h1, h2, h3, h4 => by
    have hwi : w64 ((i : Int) + 1) = ((i + 1 : Nat) : Int) := by rw [w64_id ⟨by omega, by omega⟩]; omega
    unfold iter
    dsimp only
    by_cases hlt : i < p.fSubs.length
    · have hx := List.getElem?_eq_getElem hlt
      have e1 : idx p.fSubs (i : Int) = some p.fSubs[i] := by simp [idx, hx]
      rw [List.drop_eq_getElem_cons hlt] at h3 ⊢
      cases ns with
      | nil => exact h3.elim
      | cons k ns =>
        rw [List.sum_cons] at h4
        have hk1 := Gd.pos h3.1
        have htl := tight_len 2 h3.1
        have hB : f24_B10 m K p (tx t) (i : Int) = some (.nxt (tx ((t ++ [124]) ++ tight r p.fSubs[i].vw 2), ((i + 1 : Nat) : Int))) := by
          unfold f24_B10 f24_j9
          rw [decide_eq_true (by omega : (i : Int) < (p.fSubs.length : Int)), cnd_true, e1, bnd_some', decide_eq_true (by omega : (i : Int) > 0), cnd_true,
            show (⟨#[124]⟩ : ByteArray) = tx [124] from tx1 124 (by omega), scat_tx _ _ (by simp; omega), bnd_some', hK p.fSubs[i].vw k 2 h3.1 (by omega), bnd_some', scat_tx _ _ (by simp; omega), bnd_some', hwi]
        rw [hB]
        have ih := alt_wr m K r p hlen hK M (i + 1) ((t ++ [124]) ++ tight r p.fSubs[i].vw 2) ns (by omega) hlt (by omega) h3.2 (by rw [List.length_append, List.length_append]; simp; omega)
        refine ih.trans ?_
        rw [List.append_assoc, List.append_assoc, List.flatMap_cons]
        rfl
    · have : i = p.fSubs.length := by omega
      subst this
      have hB : f24_B10 m K p (tx t) (p.fSubs.length : Int) = some (.brk (tx t, (p.fSubs.length : Int))) := by
        unfold f24_B10
        rw [decide_eq_false (by omega), cnd_false]
      rw [hB, List.drop_length]
      simp
theorem j1_eq (m : Nat) (K : Rec24) (least own : Int) (t : List Nat) (ht : t.length ≤ 90000000) : f24_j1 m K least (tx t) own = some (tx (if own < least then 40 :: (t ++ [41]) else t)) := by
  unfold f24_j1
  by_cases h : own < least
  · rw [decide_eq_true h, cnd_true, if_pos h, show (⟨#[40]⟩ : ByteArray) = tx [40] from tx1 40 (by omega), show (⟨#[41]⟩ : ByteArray) = tx [41] from tx1 41 (by omega), scat_tx _ _ (by simp; omega), bnd_some', scat_tx _ _ (by simp; omega), bnd_some']
    rfl
  · rw [decide_eq_false h, cnd_false, if_neg h]
theorem rep_wr (m : Nat) (K : Rec24) (p : S24) (least : Int) (t : List Nat) (ht : t.length ≤ 80000000) (h1 : 0 ≤ p.fLeast ∧ p.fLeast ≤ 9) (h2 : -1 ≤ p.fMost ∧ p.fMost ≤ 9) :
    f24_r20 m K p least (tx t) ((p.fMost == (-1)) && (p.fLeast == 0)) = f24_j1 m K least (tx (t ++ repT p.fLeast p.fMost)) 4 := by
  unfold f24_r20 repT
  by_cases q1 : p.fLeast = 0 ∧ p.fMost < 0
  · rw [if_pos q1, show ((p.fMost == (-1)) && (p.fLeast == 0)) = true by rw [Bool.and_eq_true, beq_iff_eq, beq_iff_eq]; omega, cnd_true, show (⟨#[42]⟩ : ByteArray) = tx [42] from tx1 42 (by omega), scat_tx _ _ (by simp; omega), bnd_some']
    rfl
  · rw [if_neg q1, show ((p.fMost == (-1)) && (p.fLeast == 0)) = false by rw [Bool.and_eq_false_iff, beq_eq_false_iff_ne, beq_eq_false_iff_ne]; omega, cnd_false]
    unfold f24_r19
    by_cases q2 : p.fLeast = 1 ∧ p.fMost < 0
    · rw [if_pos q2, show ((p.fMost == (-1)) && (p.fLeast == 1)) = true by rw [Bool.and_eq_true, beq_iff_eq, beq_iff_eq]; omega, cnd_true, show (⟨#[43]⟩ : ByteArray) = tx [43] from tx1 43 (by omega), scat_tx _ _ (by simp; omega), bnd_some']
      rfl
    · rw [if_neg q2, show ((p.fMost == (-1)) && (p.fLeast == 1)) = false by rw [Bool.and_eq_false_iff, beq_eq_false_iff_ne, beq_eq_false_iff_ne]; omega, cnd_false]
      unfold f24_r18
      by_cases q3 : p.fLeast = 0 ∧ p.fMost = 1
      · rw [if_pos q3, show ((p.fMost == 1) && (p.fLeast == 0)) = true by rw [Bool.and_eq_true, beq_iff_eq, beq_iff_eq]; omega, cnd_true, show (⟨#[63]⟩ : ByteArray) = tx [63] from tx1 63 (by omega), scat_tx _ _ (by simp; omega), bnd_some']
        rfl
      · rw [if_neg q3, show ((p.fMost == 1) && (p.fLeast == 0)) = false by rw [Bool.and_eq_false_iff, beq_eq_false_iff_ne, beq_eq_false_iff_ne]; omega, cnd_false, dig_tx _ h1,
          show (⟨#[123]⟩ : ByteArray) = tx [123] from tx1 123 (by omega), scat_tx _ _ (by simp), bnd_some', show (⟨#[44]⟩ : ByteArray) = tx [44] from tx1 44 (by omega), scat_tx _ _ (by simp), bnd_some', scat_tx _ _ (by simp; omega), bnd_some']
        unfold f24_j17
        rw [show (⟨#[125]⟩ : ByteArray) = tx [125] from tx1 125 (by omega)]
        by_cases q4 : 0 ≤ p.fMost
        · rw [decide_eq_true (by omega : p.fMost ≥ 0), cnd_true, dig_tx _ ⟨q4, h2.2⟩, scat_tx _ _ (by simp; omega), bnd_some', scat_tx _ _ (by simp; omega), bnd_some', if_pos q4]
          show f24_j1 m K least _ 4 = _
          simp
        · rw [decide_eq_false (by omega : ¬ p.fMost ≥ 0), cnd_false, scat_tx _ _ (by simp; omega), bnd_some', if_neg q4]
          show f24_j1 m K least _ 4 = _
          simp
theorem wr_txt (m : Nat) (hm : 50000 ≤ m) : ∀ (r R : Nat) (p : S24) (n : Nat) (least : Int), r ≤ R → Gd r p n → n ≤ 10000 → (K24 m R).r24 p least = some (tx (tight r p least))
  | 0, _, _, _, _, _, h, _ => h.elim
  | r + 1, 0, _, _, _, h, _, _ => by omega
  | r + 1, R + 1, p, n, least, hR, hp, hn => by
    have hK : WrOk (K24 m R) r := fun q k l hq hk => wr_txt m hm r R q k l (by omega) hq hk
    have hlenT := txt_len (r + 1) p n hp
    obtain ⟨hok, ns, hs, hns⟩ := hp
    obtain ⟨⟨l1, l2, l3⟩, hset, hsh⟩ := hok
    have hsum := F2.sum (R := fun q k => Gd r (P24.vw q) k) (fun q k h => h.pos) hs
    have hlt := labT_len p.fLabels
    have hlenS : p.fSubs.length ≤ 10000 := by omega
    have fin : ∀ own : Int, own = levK p.fKind → f24_j1 m (K24 m R) least (tx (txt (r + 1) p)) own = some (tx (tight (r + 1) p least)) := by
      intro own ho
      rw [j1_eq m _ least own _ (by omega), ho]
      rfl
    have htx : ∀ t, txt (r + 1) p = t → ∀ own : Int, own = levK p.fKind → f24_j1 m (K24 m R) least (tx t) own = some (tx (tight (r + 1) p least)) := fun t ht own ho => by rw [← ht]; exact fin own ho
    show b24 m (K24 m R) p least = _
    unfold b24
    unfold txt at htx
    by_cases k1 : p.fKind = 1
    · rw [bk p 1 k1, cnd_true]
      rw [if_pos k1] at htx
      exact htx _ rfl 5 (by rw [k1]; rfl)
    rw [bn p 1 k1, cnd_false]
    rw [if_neg k1] at htx
    by_cases k2 : p.fKind = 2
    · rw [bk p 2 k2, cnd_true]
      rw [if_pos k2] at htx
      have hl := lab_wr m (by omega) (K24 m R) p l1 l2 m 0 [] (Nat.zero_le _) (by omega) (by simp; omega)
      have hl : iter (fun (y : ByteArray × Int) => f24_B4 m (K24 m R) p y.1 y.2) m ((⟨#[]⟩ : ByteArray), 0) = _ := hl
      have hne : 0 < p.fLabels.length := List.length_pos_iff.2 (hset.1 k2)
      rw [hl, brk_inr, List.drop_zero, List.nil_append]
      by_cases h1 : p.fLabels.length = 1
      · rw [if_pos h1] at htx
        rw [decide_eq_false (by omega : ¬ (p.fLabels.length : Int) > 1), cnd_false]
        exact htx _ rfl 5 (by rw [k2]; rfl)
      · rw [if_neg h1] at htx
        rw [decide_eq_true (by omega : (p.fLabels.length : Int) > 1), cnd_true, show (⟨#[91]⟩ : ByteArray) = tx [91] from tx1 91 (by omega), show (⟨#[93]⟩ : ByteArray) = tx [93] from tx1 93 (by omega), scat_tx _ _ (by simp; omega), bnd_some', scat_tx _ _ (by simp; omega), bnd_some']
        exact htx _ rfl 5 (by rw [k2]; rfl)
    rw [bn p 2 k2, cnd_false]
    rw [if_neg k2] at htx
    by_cases k3 : p.fKind = 3
    · rw [bk p 3 k3, cnd_true]
      rw [if_pos k3] at htx
      have hl := seq_wr m (K24 m R) r p hlenS hK m 0 [] ns (Nat.zero_le _) (by omega) (by simpa using hs) (by simp; omega)
      have hl : iter (fun (y : ByteArray × Int) => f24_B7 m (K24 m R) p y.1 y.2) m ((⟨#[]⟩ : ByteArray), 0) = _ := hl
      rw [hl, brk_inr, List.drop_zero, List.nil_append]
      exact htx _ rfl 3 (by rw [k3]; rfl)
    rw [bn p 3 k3, cnd_false]
    rw [if_neg k3] at htx
    by_cases k4 : p.fKind = 4
    · rw [bk p 4 k4, cnd_true]
      rw [if_pos k4] at htx
      have hlen2 : 2 ≤ p.fSubs.length := by omega
      cases hsb : p.fSubs with
      | nil => rw [hsb] at hlen2; simp at hlen2
      | cons q s =>
        cases ns with
        | nil => rw [hsb] at hs; exact hs.elim
        | cons k ns =>
          rw [List.sum_cons] at hns
          have hs0 := hs
          rw [hsb] at hs0
          obtain ⟨hq, hs1⟩ := hs0
          obtain ⟨M, rfl⟩ : ∃ q, m = q + 1 := ⟨m - 1, by omega⟩
          have htl := tight_len 2 hq
          have e1 : idx p.fSubs 0 = some q := by rw [hsb]; rfl
          have hB : f24_B10 (M + 1) (K24 (M + 1) R) p (⟨#[]⟩ : ByteArray) 0 = some (.nxt (tx (tight r q.vw 2), 1)) := by
            unfold f24_B10 f24_j9
            rw [decide_eq_true (by omega : (0 : Int) < (p.fSubs.length : Int)), cnd_true, e1, bnd_some', show decide ((0 : Int) > 0) = false from rfl, cnd_false, hK q.vw k 2 hq (by omega), bnd_some',
              show (⟨#[]⟩ : ByteArray) = tx [] from rfl, scat_tx _ _ (by simp; omega), bnd_some', List.nil_append]
            rfl
          have hl := alt_wr (M + 1) (K24 (M + 1) R) r p hlenS hK M 1 (tight r q.vw 2) ns (Nat.le_refl _) (by omega) (by omega) (by rw [hsb]; exact hs1) (by omega)
          unfold iter
          dsimp only
          rw [hB]
          dsimp only
          have hl : iter (fun (y : ByteArray × Int) => f24_B10 (M + 1) (K24 (M + 1) R) p y.1 y.2) M (tx (tight r q.vw 2), 1) = _ := hl
          rw [hl, brk_inr]
          refine htx _ ?_ 1 (by rw [k4]; rfl)
          rw [hsb]
          simp only [List.map_cons, sepT, List.drop_succ_cons, List.drop_zero, List.flatMap_map, tight]
    rw [bn p 4 k4, cnd_false]
    rw [if_neg k4] at htx
    have two : ∀ (c : Nat), c < 128 → (p.fKind = 6 ∨ p.fKind = 7) → (c = if p.fKind = 6 then 38 else 45) → ∀ (g : ByteArray → Option ByteArray), (∀ t, g (tx t) = f24_j1 m (K24 m R) least (tx t) 2) →
        (bnd (idx p.fSubs 0) fun v1 => bnd ((K24 m R).r24 v1.vw 2) fun v2 => bnd (scat v2 (⟨#[UInt8.ofNat c]⟩ : ByteArray)) fun v3 => bnd (idx p.fSubs 1) fun v4 => bnd ((K24 m R).r24 v4.vw 3) fun v5 => bnd (scat v3 v5) fun v6 => g v6) = some (tx (tight (r + 1) p least)) := by
      intro c hc hk hcc g hg
      have hlen2 : p.fSubs.length = 2 := by omega
      cases hsb : p.fSubs with
      | nil => rw [hsb] at hlen2; simp at hlen2
      | cons q s =>
        cases s with
        | nil => rw [hsb] at hlen2; simp at hlen2
        | cons q' s' =>
          rw [hsb] at hs htx
          cases ns with
          | nil => exact hs.elim
          | cons k ns =>
            cases ns with
            | nil => exact hs.2.elim
            | cons k' ns =>
              simp only [List.sum_cons] at hns
              have t1 := tight_len 2 hs.1
              have t2 := tight_len 3 hs.2.1
              rw [show idx (q :: q' :: s') 0 = some q from rfl, bnd_some', hK q.vw k 2 hs.1 (by omega), bnd_some', tx1 c hc, scat_tx _ _ (by simp; omega), bnd_some', show idx (q :: q' :: s') 1 = some q' from rfl, bnd_some', hK q'.vw k' 3 hs.2.1 (by omega), bnd_some', scat_tx _ _ (by simp; omega), bnd_some', hg]
              refine htx _ ?_ 2 (by rcases hk with h | h <;> rw [h] <;> rfl)
              show (if p.fKind = 5 then _ else (wrapT q.vw.fKind 2 (txt r q.vw) ++ (if p.fKind = 6 then 38 else 45) :: wrapT q'.vw.fKind 3 (txt r q'.vw))) = _
              rw [if_neg (show ¬ p.fKind = 5 by omega), ← hcc]
              simp [tight]
    by_cases k6 : p.fKind = 6
    · rw [bk p 6 k6, cnd_true]
      exact two 38 (by omega) (.inl k6) (by rw [if_pos k6]) _ (fun _ => rfl)
    rw [bn p 6 k6, cnd_false]
    by_cases k7 : p.fKind = 7
    · rw [bk p 7 k7, cnd_true]
      exact two 45 (by omega) (.inr k7) (by rw [if_neg k6]) _ (fun _ => rfl)
    rw [bn p 7 k7, cnd_false]
    have k5 : p.fKind = 5 := by omega
    rw [bk p 5 k5, cnd_true]
    have hlen1 : p.fSubs.length = 1 := by omega
    cases hsb : p.fSubs with
    | nil => rw [hsb] at hlen1; simp at hlen1
    | cons q s =>
      rw [hsb] at hs htx
      cases ns with
      | nil => exact hs.elim
      | cons k ns =>
        rw [List.sum_cons] at hns
        have t1 := tight_len 4 hs.1
        rw [show idx (q :: s) 0 = some q from rfl, bnd_some', hK q.vw k 4 hs.1 (by omega), bnd_some', rep_wr m _ p least _ (by omega) (by omega) (by omega)]
        refine htx _ ?_ 4 (by rw [k5]; rfl)
        show (if p.fKind = 5 then _ else _) = _
        rw [if_pos k5]
        rfl
theorem f24_eq (m : Nat) (hm : 50000 ≤ m) (p : S24) (n : Nat) (hg : Gd 40 p n) (hn : n ≤ 10000) : f24 m p 1 = some (strI (ce (tight 40 p 1))) := wr_txt m hm 40 m p n 1 (by omega) hg hn
end Go.Abs
