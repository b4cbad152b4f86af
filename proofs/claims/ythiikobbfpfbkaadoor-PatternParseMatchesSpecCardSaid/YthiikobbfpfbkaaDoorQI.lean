import Derived.Test.YthiikobbfpfbkaaDoorQH
import Derived.Test.YthiikobbfpfbkaaDoorPY
namespace Go.Abs
open Go.Sort Go.Proofs
set_option linter.unusedVariables false
set_option maxRecDepth 100000
abbrev pat0 : S24 := ⟨0, [], [], 0, 0⟩
theorem pat0_refl : f15 100000 pat0 pat0 100 = some true := by
 show b15 100000 (K15 100000 99999) pat0 pat0 100 = some true
 unfold b15 f15_r6 f15_r5 f15_r4 f15_r3 f15_r2
 rw [show ((((100 : Int) == 0) || ((0 : Int) != 0)) || ((0 : Int) != 0) || ((0 : Int) != 0)) = false from rfl, cnd_false, f32_refl 100000 [] (by simp) (by omega), bnd_some', bnd_some']
 rfl
theorem itA_len : ∀ (t : List Nat) (s : AS) (e : List S81), itA s t = .inl e → e.length ≤ t.length
 | [], s, e, h => by
  unfold itA at h
  split at h
  ·cases h; exact Nat.le_refl _
  ·cases h
 | c :: r, s, e, h => by
  cases hs : stepA s c with
  | none => rw [itA_none hs] at h; cases h
  | some y =>
   obtain ⟨s', e1⟩ := y
   rw [itA_some hs] at h
   have he1 : e1.length ≤ 1 := by
    obtain ⟨md, pile, need, was⟩ := s
    unfold stepA at hs
    split at hs
    all_goals (repeat' split at hs)
    all_goals first | (cases hs; done) | (cases hs; simp)
   cases hx : itA s' r with
   | inr t2 => rw [hx] at h; cases h
   | inl l =>
    rw [hx] at h
    cases h
    have := itA_len r s' _ hx
    rw [List.length_append, List.length_cons]
    omega
theorem plain4 (a0 : ByteArray) : f4 100000 a0 = some true := by
 have e0 : (!(((⟨0, 0⟩ : S27).fCode == 0) && (((⟨0, 0⟩ : S27).fIndex == 0) && true))) = false := rfl
 obtain ⟨o, h1, h2, h3⟩ := decs_same 100000 (by omega) a0
 -- both give the same
 have same : ∀ (p : S24) (f : S27), f13 100000 a0 = some (p, f) → f14 100000 a0 = some (p, f) → f15 100000 p p 100 = some true → f4 100000 a0 = some true := by
  intro p f g1 g2 g3
  unfold f4
  rw [show f8 100000 = some true from rfl, bnd_some', Bool.not_true, cnd_false, g1, bnd_some', g2, bnd_some']
  have e1 : ((f.fCode == f.fCode) && ((f.fIndex == f.fIndex) && true)) = true := by simp
  show (bnd (cnd ((f.fCode == f.fCode) && ((f.fIndex == f.fIndex) && true)) (bnd (f15 100000 p p 100) fun v12 => some v12) (some false)) fun v10 => f4_r1 100000 v10) = _
  rw [e1, cnd_true, g3]
  rfl
 rcases h3 with ⟨l, rfl, hl⟩ | h3
 case inr =>
  have e1 : (!((o.2.fCode == 0) && ((o.2.fIndex == 0) && true))) = true := by
   have : (o.2.fCode == 0) = false := by simpa using h3
   rw [this]; rfl
  refine same pat0 o.2 ?_ ?_ pat0_refl
  ·unfold f13
   rw [h1, bnd_some', e1, cnd_true]
  ·unfold f14
   rw [h2, bnd_some', e1, cnd_true]
 have hrd := reader_rd 100000 (by omega) 80 0 100000 (by omega) (by omega) l 0 l false ⟨rfl, Nat.zero_le _, hl⟩ (fun e => by cases e)
 have hit := items_eq 100000 (by omega) l hl
 have synt : ∀ (p : S24) (ok : Bool) (k : Nat) (t' : List Nat), f28 100000 (⟨castL l, 0⟩ : S58) 1 = some ((p, ok), st l k) → (ok = false ∨ t' ≠ []) → Cut l k t' → itA (oA 0 true false) l = .inr t' → f4 100000 a0 = some true := by
  intro p ok k t' g1 g2 g3 g4
  refine same pat0 ⟨11, (k : Int)⟩ ?_ ?_ pat0_refl
  ·unfold f13
   rw [h1, bnd_some']
   dsimp only
   rw [e0, cnd_false, g1, bnd_some']
   unfold f13_r1
   have e3 : ((!ok) || (decide ((st l k).fAt < ((castL l).length : Int)))) = true := by
    rcases g2 with rfl | g2
    ·rfl
    ·obtain ⟨x, r, rfl⟩ : ∃ x r, t' = x :: r := by
      cases t' with
      | nil => exact absurd rfl g2
      | cons x r => exact ⟨x, r, rfl⟩
     have : decide ((st l k).fAt < ((castL l).length : Int)) = true := g3.ltI
     rw [this, Bool.or_true]
   dsimp only
   rw [e3, cnd_true]
   rfl
  ·unfold f14
   rw [h2, bnd_some']
   dsimp only
   rw [e0, cnd_false, hit, bnd_some', g4]
   have hk : l.length - t'.length = k := by have := g3.len; omega
   show cnd (decide (((l.length - t'.length : Nat) : Int) ≥ 0)) _ _ = _
   rw [decide_eq_true (by omega), cnd_true]
   show (bnd (f25 100000 11 ((l.length - t'.length : Nat) : Int)) fun v3 => _) = _
   rw [hk]
   rfl
 rcases hrd with ⟨p, e, k, t', g1, g2, g3, g4, g5, g6⟩ | ⟨p, k, t', g1, g2, g3⟩
 case inr => exact synt p false k t' g1 (.inl rfl) g2 g3
 cases t' with
 | cons x r =>
  refine synt p.vw true k (x :: r) g1 (.inr (by simp)) g3 ?_
  rw [g4, itA_none (by
   have := g6 x rfl
   rcases this with rfl | rfl | rfl | rfl <;> simp [stepA, plC, specL])]
  rfl
 | nil =>
  have hfin : itA (oA 0 true false) l = .inl e := by
   rw [g4]
   show preA e (itA (oA 0 false false) []) = _
   have : itA (oA 0 false false) [] = .inl [] := rfl
   rw [this]
   simp [preA]
  have hel := itA_len _ _ _ hfin
  have hsh := shaped_eq 100000 (by omega) 4001 100000 6 e p (by omega) (by omega) (by omega) (.inl rfl) g5
  have hsh : f31 100000 e = some p.vw := hsh
  obtain ⟨f9, hv, hv2⟩ := f9_eq 100000 (by omega) p.vw
  have hv12 : f12 100000 p.vw = some f9 := by rw [← faults_same 100000 (by omega) p.vw]; exact hv
  have g1 : f28 100000 (⟨castL l, 0⟩ : S58) 1 = some ((p.vw, true), st l k) := g1
  have p13 : f13 100000 a0 = cnd (!((f9.fCode == 0) && ((f9.fIndex == 0) && true))) (some (pat0, f9)) (some (p.vw, (⟨0, 0⟩ : S27))) := by
   unfold f13
   rw [h1, bnd_some']
   dsimp only
   rw [e0, cnd_false, g1, bnd_some']
   unfold f13_r1
   have e3 : ((!true) || (decide ((st l k).fAt < ((castL l).length : Int)))) = false := by
    have : decide ((st l k).fAt < ((castL l).length : Int)) = false := g3.geI
    rw [this]; rfl
   dsimp only
   rw [e3, cnd_false, hv, bnd_some']
  have p14 : f14 100000 a0 = cnd (!((f9.fCode == 0) && ((f9.fIndex == 0) && true))) (some (pat0, f9)) (some (p.vw, (⟨0, 0⟩ : S27))) := by
   unfold f14
   rw [h2, bnd_some']
   dsimp only
   rw [e0, cnd_false, hit, bnd_some', hfin]
   show cnd (decide ((-1 : Int) ≥ 0)) _ _ = _
   rw [decide_eq_false (by omega), cnd_false]
   show (bnd (f31 100000 ([] ++ e)) fun v4 => _) = _
   rw [List.nil_append, hsh, bnd_some', hv12, bnd_some']
  rcases hv2 with ⟨rfl, n, hn, hg⟩ | hv2
  ·rw [e0, cnd_false] at p13 p14
   exact same p.vw _ p13 p14 (pat_refl 100000 (by omega) 40 100000 p.vw n 100 (by omega) hg hn (by omega) (by omega))
  ·have e4 : (!((f9.fCode == 0) && ((f9.fIndex == 0) && true))) = true := by
    have : (f9.fCode == 0) = false := by simpa using hv2
    rw [this]; rfl
   rw [e4, cnd_true] at p13 p14
   exact same pat0 f9 p13 p14 pat0_refl
end Go.Abs
