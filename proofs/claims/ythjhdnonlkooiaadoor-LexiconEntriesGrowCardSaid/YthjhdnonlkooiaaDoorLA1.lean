import Derived.Test.YthjhdnonlkooiaaDoorLE
import Derived.Test.YthjhdnonlkooiaaDoorAbsH
namespace Go.Abs
set_option linter.unusedVariables false
/-! ### names -/
def letB (c : Int) : Bool := decide (c ≥ 97) && decide (c ≤ 122)
def nameB (c : Int) : Bool := letB c || (decide (c ≥ 48) && decide (c ≤ 57)) || c == 95 || c == 45
/-- a name: its first byte is a letter -/
def nameS (s : ByteArray) : Bool := decide (1 ≤ s.size ∧ s.size ≤ 30) && (allP (fun i c => letB c || (i != 0 && nameB c)) 0 (byt s))
theorem f39_eq (m : Nat) (s : ByteArray) (hm : 31 < m) : f39 m s = some (nameS s) := by
  unfold f39 f39_r4 nameS
  by_cases h : 1 ≤ s.size ∧ s.size ≤ 30
  · have hb : ((decide ((s.size : Int) < 1)) || (decide ((s.size : Int) > 30))) = false := by
      simp only [Bool.or_eq_false_iff, decide_eq_false_iff_not]
      omega
    rw [hb, decide_eq_true h, cnd_false, Bool.true_and]
    have e : iter (fun (y : Int) => f39_B3 m s y) m 0 = landed (fun (_ : Unit) (i : Int) => i) (byt s).length (scan (fun i (_ : Unit) c => if letB c || (i != 0 && nameB c) then some (.inr ()) else some (.inl false)) 0 () (byt s)) := by
      refine iter_scan (byt s) (fun (y : Int) => f39_B3 m s y) (fun (_ : Unit) (i : Int) => i) (fun i (_ : Unit) c => if letB c || (i != 0 && nameB c) then some (.inr ()) else some (.inl false)) (fun u k hi => ?_) m 0 () (by omega) (by rw [byt_len]; omega)
      have hl := byt_len s
      unfold f39_B3
      rw [← hl]
      refine body_turn' rfl fun c hc => ?_
      have hw : w64 ((k : Int) + 1) = (k : Int) + 1 := w64_id ⟨by omega, by omega⟩
      rw [sidx_get, hc]
      simp only [bnd_some', f39_r2, f39_r1, hw]
      have key : ((!((decide (c ≥ 97)) && (decide (c ≤ 122)))) && ((((k : Int) == 0) || (((c != 95) && (((c != 45) && (((decide (c < 48)) || (decide (c > 57)))))))))) ) = !(letB c || (((k : Int) != 0) && nameB c)) := by
        rw [Bool.eq_iff_iff]
        simp only [nameB, letB, Bool.and_eq_true, Bool.or_eq_true, Bool.not_eq_true', Bool.or_eq_false_iff, Bool.and_eq_false_iff, decide_eq_true_eq, decide_eq_false_iff_not, bne_iff_ne, beq_iff_eq, bne_eq_false_iff_eq, beq_eq_false_iff_ne, ne_eq]
        omega
      rw [key]
      by_cases q : (letB c || (((k : Int) != 0) && nameB c)) = true
      · rw [q]; rfl
      · have q : (letB c || (((k : Int) != 0) && nameB c)) = false := by simpa using q
        rw [q]; rfl
    rw [e, scan_allP]
    cases allP (fun i c => letB c || (i != 0 && nameB c)) 0 (byt s) <;> rfl
  · have hb : ((decide ((s.size : Int) < 1)) || (decide ((s.size : Int) > 30))) = true := by
      simp only [Bool.or_eq_true, decide_eq_true_eq]
      omega
    rw [hb, decide_eq_false h]
    rfl
/-! ### tags -/
def tagsS (l : List ByteArray) : Int := if l.length > 4 then 2 else if l.all nameS then 0 else 10
end Go.Abs
