import Derived.Test.YtppipllchjpfmaaTPlainA
namespace Go.Abs
set_option linter.unusedVariables false
def kindR (a : S42) (k : Int) : S42 := ⟨k, a.fPair, a.fContexts⟩
theorem allP_and {α : Type} (P Q R : Int → α → Bool) (h : ∀ i x, P i x = (Q i x && R i x)) : ∀ (l : List α) (i : Int), allP P i l = (allP Q i l && allP R i l)
  | [], i => rfl
  | x :: r, i => by
    simp only [allP, h, allP_and P Q R h r]
    cases Q i x <;> cases R i x <;> cases allP Q (i + 1) r <;> cases allP R (i + 1) r <;> rfl
theorem allP_all {α : Type} (p : α → Bool) : ∀ (l : List α) (i : Int), allP (fun _ x => p x) i l = l.all p
  | [], i => rfl
  | x :: r, i => by simp only [allP, List.all_cons, allP_all p r]
theorem obey_none (a : S42) (l : List S39) : (obeyedS l (kindR a 1) && obeyedS l (kindR a 4)) = l.all fun p => !sameS a p := by
  unfold obeyedS
  rw [← allP_all (fun p => !sameS a p) l 0]
  refine (allP_and _ _ _ (fun i p => ?_) l 0).symm
  have h1 : obeyS (kindR a 1) l i.toNat p = (!sameS a p || anyS a l i.toNat) := rfl
  have h2 : obeyS (kindR a 4) l i.toNat p = (!sameS a p || !anyS a l i.toNat) := rfl
  rw [h1, h2]
  cases sameS a p <;> cases anyS a l i.toNat <;> rfl
theorem scan_same (a : S42) : ∀ (xs : List S39) (i : Int) (b : Bool), scan (R := Bool) (fun _ b p => some (.inr (b || sameS a p))) i b xs = some (.inr (b || xs.any fun p => sameS a p))
  | [], i, b => by simp [scan]
  | x :: r, i, b => by
    simp only [scan]
    rw [scan_same a r (i + 1)]
    simp [Bool.or_assoc]
theorem all_none (a : S42) : ∀ l : List S39, (l.all fun p => !sameS a p) = !(l.any fun p => sameS a p)
  | [] => rfl
  | x :: r => by simp only [List.all_cons, List.any_cons, all_none a r, Bool.not_or]
theorem f9_loop (m : Nat) (a : S42) (l : List S39) (hl : l.length ≤ 1000) (hm : 1000 < m) : iter (fun (y : Bool × Int) => f9_B2 m a l y.1 y.2) m (false, 0) = some (.inr (l.any (fun p => sameS a p), (l.length : Int))) := by
  have e : iter (fun (y : Bool × Int) => f9_B2 m a l y.1 y.2) m (false, 0) = landed (fun (b : Bool) (i : Int) => (b, i)) l.length (scan (R := Bool) (fun _ b p => some (.inr (b || sameS a p))) 0 false l) := by
    refine iter_scan l (fun (y : Bool × Int) => f9_B2 m a l y.1 y.2) (fun (b : Bool) (i : Int) => (b, i)) (fun _ b p => some (.inr (b || sameS a p))) (fun s k hi => ?_) m 0 false (by omega) (by omega)
    refine body_turn rfl fun p hp => ?_
    have hw : w64 ((k : Int) + 1) = (k : Int) + 1 := w64_id ⟨by omega, by omega⟩
    simp only [f9_r1, hw]
    rfl
  rw [e, scan_same, Bool.false_or]
  rfl
theorem plain9 (a : S42) (l : List S39) : f9 1001 a l = some true := by
  unfold f9
  rw [f16_big]
  simp only [bnd_some', Bool.not_true, cnd_false]
  have e1 : (⟨1, a.fPair, a.fContexts⟩ : S42) = kindR a 1 := rfl
  have e2 : (⟨4, a.fPair, a.fContexts⟩ : S42) = kindR a 4 := rfl
  rw [e1, e2]
  rcases f18_eq 1001 [kindR a 1, kindR a 4] l (by omega) with ⟨v, h1, h2, h3⟩ | ⟨h1, v, h2, h3, h4⟩ | ⟨h1, h2, h3, h4, h5, h6⟩
  · rw [h3]
    simp only [bnd_some', ok25 v h1, Bool.not_false, cnd_true]
  · rw [h4]
    simp only [bnd_some', ok25 v h2, Bool.not_false, cnd_true]
  · rw [h6]
    have za : (!(((allowedS [kindR a 1, kindR a 4] l).2.2.fCode == 0) && (((allowedS [kindR a 1, kindR a 4] l).2.2.fIndex == 0) && true))) = false := by
      unfold allowedS
      cases firstP (obeyedS l) 0 [kindR a 1, kindR a 4] <;> rfl
    have zb : (allowedS [kindR a 1, kindR a 4] l).1 = (obeyedS l (kindR a 1) && obeyedS l (kindR a 4)) := by
      unfold allowedS
      simp only [firstP]
      cases q1 : obeyedS l (kindR a 1) <;> cases q2 : obeyedS l (kindR a 4) <;> simp
    simp only [bnd_some', za, cnd_false]
    rw [f9_loop 1001 a l (by omega) (by omega), zb, obey_none]
    simp only [brk_inr]
    rw [all_none a l]
    simp
end Go.Abs
