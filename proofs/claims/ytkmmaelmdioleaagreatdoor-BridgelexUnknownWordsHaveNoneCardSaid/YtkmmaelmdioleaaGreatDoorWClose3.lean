/-
  PROVED: An analyser knows no word that its lexicon does not have. The card's condition alone: the two tables of unicode/utf8 hold what the program's text lays.
-/
import Derived.Test.YtkmmaelmdioleaaGreatDoorCards
import Derived.Test.YtkmmaelmdioleaaGreatDoorTie
import Derived.Test.YtkmmaelmdioleaaGreatDoorPE
import Derived.WalkKit
import Derived.ProofKit
import Derived.OpenShut
import Derived.Deep.DeepHandedRow
import Derived.Lib.LaidU8
namespace Go.Proofs.YtkmmaelmdioleaaGreatDoor
open Go.ChangeShapes Go.WideShapes Go.ChangeAt Go.RowKit
open Go.Abs
set_option linter.unusedVariables false
set_option linter.unusedSimpArgs false
set_option linter.unnecessarySimpa false
theorem own : ownKnob Tryz.prog.godebug = none := by kernel_rfl
theorem laidOut : laidOutB Tryz.prog = true := by kernel_rfl
theorem firstIs : Rows.laid_unicode_utf8_first = Lib.firstData := by kernel_rfl
theorem acceptIs : (Rows.laid_unicode_utf8_acceptRanges : DataW Unit) = Lib.acceptData := by kernel_rfl
theorem extra : U8Extra Tryz.prog Tryz.lays260_ren := ⟨by kernel_rfl, by kernel_rfl, by kernel_rfl, by kernel_rfl, by kernel_rfl, by kernel_rfl, by kernel_rfl⟩
theorem laidPlain : (Rows.bridgelexUnknownWordsHaveNoneRow.laid.filter fun x => x.2.handleName?.isSome) = [] := by kernel_rfl
theorem tabs {W : World} (h : laidMetH Tryz.prog Rows.bridgelexUnknownWordsHaveNoneRow.laid W) : Lib.Utf8Tabs 0 1 W := by
 unfold laidMetH at h
 rw [laidPlain] at h
 have h : laidMet Tryz.prog [("unicode/utf8.acceptRanges", Rows.laid_unicode_utf8_acceptRanges), ("unicode/utf8.first", Rows.laid_unicode_utf8_first)] W := h
 have h1 := Lib.laidMet.reads h (n := "unicode/utf8.first") (List.mem_cons_of_mem _ List.mem_cons_self)
 have h2 := Lib.laidMet.reads h (n := "unicode/utf8.acceptRanges") List.mem_cons_self
 rw [firstIs] at h1
 rw [acceptIs] at h2
 exact utf8Tabs_of_reads Tryz.lays260 extra h1 h2
theorem glob {W : World} (h : laidMetH Tryz.prog Rows.bridgelexUnknownWordsHaveNoneRow.laid W) : Glob (there W) W := by
 obtain ⟨t1, t2⟩ := tabs h
 refine ⟨?_, fun g j p hp => by cases hp⟩
 intro g cells hg j x hx
 unfold G0 at hg
 split at hg
 ·cases hg
  have hj : j < 256 := by
   rcases Nat.lt_or_ge j 256 with h | h
   ·exact h
   ·rw [List.getElem?_eq_none (by unfold Abs.firstTab; rw [List.length_map, List.length_range]; exact h)] at hx; cases hx
  unfold Abs.firstTab at hx
  rw [List.getElem?_map, List.getElem?_range hj] at hx
  cases hx
  exact ⟨World.block_lt_of_cell? W _ (t1 j hj), _, t1 j hj, .int _ _⟩
 ·cases hg
  have hj : j < 32 := by
   rcases Nat.lt_or_ge j 32 with h | h
   ·exact h
   ·rw [List.getElem?_eq_none (by unfold acceptTab; rw [List.length_map, List.length_range]; exact h)] at hx; cases hx
  unfold acceptTab at hx
  rw [List.getElem?_map, List.getElem?_range hj] at hx
  cases hx
  obtain ⟨a, b⟩ := t2 (j / 2) (by omega)
  by_cases he : j % 2 = 0
  ·rw [show 2 * (j / 2) = j by omega] at a
   dsimp only
   rw [if_pos he]
   exact ⟨World.block_lt_of_cell? W _ a, _, a, .int _ _⟩
  ·rw [show 2 * (j / 2) + 1 = j by omega] at b
   dsimp only
   rw [if_neg he]
   exact ⟨World.block_lt_of_cell? W _ b, _, b, .int _ _⟩
 ·cases hg
theorem hin3 : ∀ t ∈ Tryz.f3.params.toList, t ∈ Go.Abs.LT ∧ Tryz.prog.readableRec t = true ∧ t < Tryz.prog.types.size := by
 have h : (Tryz.f3.params.toList.all fun t => Go.Abs.LT.contains t && Tryz.prog.readableRec t && decide (t < Tryz.prog.types.size)) = true := by kernel_rfl
 intro t ht
 have := List.all_eq_true.1 h t ht
 simp only [Bool.and_eq_true, decide_eq_true_eq] at this
 exact ⟨by simpa using this.1.1, this.1.2, this.2⟩
theorem hrun3 : ∀ xs, TypedL Go.Abs.EG.T Tryz.f3.params.toList xs → ∃ n, runV Tryz.prog Go.Abs.EG n 3 xs = some (.bool true) :=
 law3 fun a0 a1 _ _ => ⟨5000, plain3 a0 a1⟩
def lay0 : Obj → Obj
 | .cells _ t frozen => .cells ((List.range 256).map fun c => Value.int .u8 (Lib.firstT c)).toArray t frozen
 | o => o
def lay1 : Obj → Obj
 | .cells _ t frozen => .cells ((List.range 32).map fun j => Value.int .u8 (if j % 2 = 0 then Lib.accLo (j / 2) else Lib.accHi (j / 2))).toArray t frozen
 | o => o
noncomputable def laidWorld (os : Os) : World :=
 { World.holding Tryz.prog os ⟨#[], #[], []⟩ with heap := ((World.holding Tryz.prog os ⟨#[], #[], []⟩).heap.modify 0 lay0).modify 1 lay1 }
theorem laid_met (os : Os) : laidMet Tryz.prog Rows.bridgelexUnknownWordsHaveNoneRow.laid ((laidWorld os).forCall (fun _ _ => 0) ⟨#[], #[.slice none 0 0, .slice none 0 0], []⟩).memory :=
 laidMet_of_run' 8 (by kernel_rfl) (by kernel_rfl)
theorem reads (os : Os) {H : Type} (enc : TypeId × Value → H) : ∃ places, DataW.whole enc Tryz.prog ((laidWorld os).forCall (fun _ _ => 0) ⟨#[], #[.slice none 0 0, .slice none 0 0], []⟩).memory Tryz.f3.params.toList Rows.bridgelexUnknownWordsHaveNoneSpec.vars false (#[.slice none 0 0, .slice none 0 0] : Array Value).toList 8 = some ([.nil, .nil], [], places) :=
 ⟨[], by kernel_rfl⟩
set_option maxRecDepth 100000 in
theorem lifted3 (os : Os) (started : os.Started) (H : Type) (enc : TypeId × Value → H) (F : Stop.Interp) :
  ReturnsInHanded {} Tryz.checked os 3 .any ((OpenSpec.ofChange Rows.bridgelexUnknownWordsHaveNoneSpec).preRow enc Tryz.prog Tryz.f3 Rows.bridgelexUnknownWordsHaveNoneRow.domain false Rows.bridgelexUnknownWordsHaveNoneRow.laid) (((OpenSpec.ofChange Rows.bridgelexUnknownWordsHaveNoneSpec).at F).post enc Tryz.prog Tryz.f3 false true false false) := by
 obtain ⟨places, hx⟩ := reads os enc
 refine returnsInHanded_of_row (C := Tryz.checked) (s := OpenSpec.ofChange Rows.bridgelexUnknownWordsHaveNoneSpec) own started (by kernel_rfl) Tryz.func3
  (witness_row_at (enc := enc) (C := Tryz.checked) false (laidWorld os) #[.slice none 0 0, .slice none 0 0] rfl (by kernel_rfl) (by kernel_rfl) (by kernel_rfl)
   (OpenSpec.preRow_of_cond 8 hx (by kernel_rfl) (fun k hk => by cases hk) (by kernel_rfl) (laid_met os))) ?_
 intro W base args ds gs before hval hW _ _ _ hL _ _
 exact law_contract Go.Abs.goodG Go.Abs.LT_ok laidOut ⟨4, by kernel_rfl, Tryz.underlying4⟩ hin3 rfl (fun H ds h => by
  match ds, h with
  | [d0, d1], _ => rfl) hrun3 (glob hL) hval hW
theorem bridgelexUnknownWordsHaveNoneRowHolds : Rows.BridgelexUnknownWordsHaveNoneSaid :=
 OpenClaim.holds_of_cond 3 Tryz.f3 rfl rfl rfl rfl rfl rfl rfl ⟨rfl, rfl, rfl, rfl, rfl⟩ rfl rfl rfl rfl rfl (by kernel_rfl) Tryz.func3 (by kernel_rfl)
  (of_decide_eq_true (by kernel_rfl)) (by unfold Func.isWrapper; first | (rw [if_pos (by decide +kernel)]; kernel_rfl) | (rw [if_neg (by decide +kernel)]; exact ⟨rfl, rfl⟩))
  (fun os started H enc _ F => by rw [OpenClaim.pre_eq_preRow]; exact lifted3 os started H enc F)
theorem standsIn (f : FuncId) (fn : Func) (hf : Tryz.pinned.checked.prog.funcNamed "glosswright/glosswrightlaw6.BridgelexUnknownWordsHaveNone" = some f) (hfn : Tryz.pinned.checked.prog.funcs[f]? = some fn) :
  true = Tryz.pinned.checked.prog.looks [] ∧ ∀ (j : Nat) t, fn.params[j]? = some t → Tryz.pinned.checked.prog.wantsStandIn t = false := by
 obtain rfl : f = 3 := Option.some.inj ((show Tryz.prog.funcNamed "glosswright/glosswrightlaw6.BridgelexUnknownWordsHaveNone" = some 3 by kernel_rfl).symm.trans hf) |>.symm
 obtain rfl : fn = Tryz.f3 := (Option.some.inj (Tryz.func3.symm.trans hfn)).symm
 have h : (Tryz.f3.params.toList.all fun t => !Tryz.prog.wantsStandIn t) = true := by kernel_rfl
 refine ⟨by kernel_rfl, fun j t ht => ?_⟩
 have := List.all_eq_true.1 h t (List.mem_of_getElem? (by simpa using ht))
 exact (by simpa using this : Tryz.prog.wantsStandIn t = false)
theorem bridgelexUnknownWordsHaveNone : Rows.BridgelexUnknownWordsHaveNoneCardSaid :=
 Claim7.holds_tied_plain_at .later [] _ _ _ _ bridgelexUnknownWordsHaveNoneRowHolds (fun _ h => by cases h) (by kernel_rfl) (fun _ h => by cases h) bridgelexUnknownWordsHaveNone_row_tie rfl ⟨rfl, rfl⟩ (by kernel_rfl) rfl standsIn (by kernel_rfl)
#print axioms bridgelexUnknownWordsHaveNone
end Go.Proofs.YtkmmaelmdioleaaGreatDoor
