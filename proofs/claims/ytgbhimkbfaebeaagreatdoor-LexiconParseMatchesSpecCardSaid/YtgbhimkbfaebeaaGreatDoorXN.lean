import Derived.Test.YtgbhimkbfaebeaaGreatDoorShelf
import Derived.WalkKit
import Derived.ProofKit
import Derived.BigQuiet
namespace Go.Proofs
open Go.RowKit Go.Shelf
set_option linter.unusedVariables false
set_option linter.unusedSimpArgs false
set_option linter.unnecessarySimpa false
set_option maxRecDepth 100000
set_option maxHeartbeats 2000000
theorem number_ok (s : ByteArray) (hs : s.size ≤ 281474976710656) (v : Int) (h : Lib.atoiAll s.data.toList = .ok v) (h0 : -9223372036854775808 ≤ v) (h1 : v ≤ 9223372036854775807) (w : World) (htab : Lib.TabIs Tryz.prog w "internal/strconv.uint64pow10" .u64 Lib.pow10Tab) :
  Calls Tryz.prog 45 #[.string s] w fun e w' => e = .returned (.tuple #[.int .i64 v, .bool (Lib.itoa v == s.toList)]) ∧ Below w.heap.size w w' := by
 go_enter Tryz.func45, Tryz.ntmps45
 go_wp2_with (first
  | (go_at_call 60; refine (Tryz.strconv_Atoi_ok s (by omega) v h _).mono ?_; rintro e w1 ⟨rfl, hw⟩))
 have hw1 : Below w.heap.size w w1 := by
  rcases hw with rfl | ⟨t, rfl⟩
  ·exact Below.refl _ _
  ·exact Lib.bytesWorld_below w 5 t
 have ht1 : Lib.TabIs Tryz.prog w1 "internal/strconv.uint64pow10" .u64 Lib.pow10Tab := by
  rcases hw with rfl | ⟨t, rfl⟩
  ·exact htab
  ·exact Lib.bytesWorld_var w 5 t htab
 clear hw htab
 go_wp2_with (first
  | (go_at_call 61; refine (Tryz.strconv_Itoa v h0 h1 _ ht1).mono ?_; rintro e w2 ⟨rfl, k, os, rfl⟩))
 go_ret2
 refine ⟨rfl, hw1.trans ?_⟩
 exact Lib.below_grow _ w1 hw1.size k os
theorem number_bad (s : ByteArray) (hs : s.size ≤ 281474976710656) (v : Int) (te : TypeId) (w : World)
  (hc : Calls Tryz.prog 60 #[.string s] w fun e w' => ∃ N, e = .returned (.tuple #[.int .i64 v, .iface te (.pointer (some ⟨N, 0, none⟩))]) ∧ Below w.heap.size w w') :
  Calls Tryz.prog 45 #[.string s] w fun e w' => e = .returned (.tuple #[.int .i64 v, .bool false]) ∧ Below w.heap.size w w' := by
 go_enter Tryz.func45, Tryz.ntmps45
 go_wp2_with (first
  | (go_at_call 60; refine hc.mono ?_; rintro e w1 ⟨N, rfl, hw1⟩))
 go_wp2
 go_ret2
 exact ⟨rfl, hw1⟩
end Go.Proofs
