import Derived.Test.YthjhdnonlkooiaaDoorQ8
namespace Go.Abs
set_option linter.unusedVariables false
theorem mem_bases {p : S23} {form b : ByteArray} (hf : wordS form = true) : b ∈ basesRef p form ↔ ∃ c ∈ p.fCells, changeS form c.fAdd c.fCut = some b := by
  rw [← bases_eq p form hf, (setS_spec _).2, List.mem_filterMap]
theorem bases_small {p : S23} {form : ByteArray} (hl : p.fCells.length ≤ 40) (hf : wordS form = true) : (basesRef p form).length ≤ 4840 := by
  obtain ⟨_, _, _, _, h, _⟩ := wordS_spec hf
  exact Nat.le_trans (bases_len p form) (Nat.mul_le_mul hl (Nat.succ_le_succ h))
theorem bases_word {p : S23} {form b : ByteArray} (hf : wordS form = true) (hb : b ∈ basesRef p form) : wordS b = true := by
  obtain ⟨c, _, h⟩ := (mem_bases hf).1 hb
  exact changeS_word h
theorem table_back {p : S23} {base : ByteArray} (hb : wordS base = true) {x : S41} (hx : x ∈ tabS p base) : wordS x.fForm = true ∧ base ∈ basesRef p x.fForm := by
  unfold tabS at hx
  obtain ⟨c, hc, hr⟩ := List.mem_filterMap.1 hx
  unfold rowOf at hr
  obtain ⟨s, hs, rfl⟩ := Option.map_eq_some_iff.1 hr
  have hw := changeS_word hs
  exact ⟨hw, (mem_bases hw).2 ⟨c, hc, (change_back hb hs).1⟩⟩
end Go.Abs
