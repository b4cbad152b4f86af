/-
  PROVED: Matches tells whether a pattern matches a string, and the fault, as the specification requires. The card's condition alone: the two tables of unicode/utf8 hold what the program's text lays.
-/
import Derived.Test.YthiikobbfpfbkaaDoorCards
import Derived.Test.YthiikobbfpfbkaaDoorTie
import Derived.Test.YthiikobbfpfbkaaDoorMP5
import Derived.WalkKit
import Derived.ProofKit
import Derived.OpenShut
import Derived.Deep.DeepHandedRow
import Derived.Lib.LaidU8
namespace Go.Proofs.YthiikobbfpfbkaaDoor
open Go.ChangeShapes Go.WideShapes Go.ChangeAt Go.RowKit
open Go.Abs
set_option linter.unusedVariables false
theorem own : ownKnob Tryd.prog.godebug = none := by kernel_rfl
theorem laidOut : laidOutB Tryd.prog = true := by kernel_rfl
theorem firstIs : Rows.laid_unicode_utf8_first = Lib.firstData := by kernel_rfl
theorem acceptIs : (Rows.laid_unicode_utf8_acceptRanges : DataW Unit) = Lib.acceptData := by kernel_rfl
theorem extra : U8Extra Tryd.prog Tryd.lays260_ren := ⟨by kernel_rfl, by kernel_rfl, by kernel_rfl, by kernel_rfl, by kernel_rfl, by kernel_rfl, by kernel_rfl⟩
theorem laidPlain : (Rows.patternMatchingMatchesSpecRow.laid.filter fun x => x.2.handleName?.isSome) = [] := by kernel_rfl
theorem tabs {W : World} (h : laidMetH Tryd.prog Rows.patternMatchingMatchesSpecRow.laid W) : Lib.Utf8Tabs 0 1 W := by
  unfold laidMetH at h
  rw [laidPlain] at h
  have h : laidMet Tryd.prog [("math/bits.deBruijn32tab", Rows.laid_math_bits_deBruijn32tab), ("math/bits.deBruijn64tab", Rows.laid_math_bits_deBruijn64tab), ("internal/strconv.uint64pow10", Rows.laid_internal_strconv_uint64pow10), ("unicode/utf8.acceptRanges", Rows.laid_unicode_utf8_acceptRanges), ("unicode/utf8.first", Rows.laid_unicode_utf8_first)] W := h
  have h1 := Lib.laidMet.reads h (n := "unicode/utf8.first") (List.mem_cons_of_mem _ (List.mem_cons_of_mem _ (List.mem_cons_of_mem _ (List.mem_cons_of_mem _ List.mem_cons_self))))
  have h2 := Lib.laidMet.reads h (n := "unicode/utf8.acceptRanges") (List.mem_cons_of_mem _ (List.mem_cons_of_mem _ (List.mem_cons_of_mem _ List.mem_cons_self)))
  rw [firstIs] at h1
  rw [acceptIs] at h2
  exact utf8Tabs_of_reads Tryd.lays260 extra h1 h2
theorem glob {W : World} (h : laidMetH Tryd.prog Rows.patternMatchingMatchesSpecRow.laid W) : Glob (there W) W := by
  obtain ⟨t1, t2⟩ := tabs h
  intro g cells hg j x hx
  unfold G0 at hg
  split at hg
  · cases hg
    have hj : j < 256 := by
      rcases Nat.lt_or_ge j 256 with h | h
      · exact h
      · rw [List.getElem?_eq_none (by unfold Abs.firstTab; rw [List.length_map, List.length_range]; exact h)] at hx; cases hx
    unfold Abs.firstTab at hx
    rw [List.getElem?_map, List.getElem?_range hj] at hx
    cases hx
    exact ⟨World.block_lt_of_cell? W _ (t1 j hj), _, t1 j hj, .int _ _⟩
  · cases hg
    have hj : j < 32 := by
      rcases Nat.lt_or_ge j 32 with h | h
      · exact h
      · rw [List.getElem?_eq_none (by unfold acceptTab; rw [List.length_map, List.length_range]; exact h)] at hx; cases hx
    unfold acceptTab at hx
    rw [List.getElem?_map, List.getElem?_range hj] at hx
    cases hx
    obtain ⟨a, b⟩ := t2 (j / 2) (by omega)
    by_cases he : j % 2 = 0
    · rw [show 2 * (j / 2) = j by omega] at a
      dsimp only
      rw [if_pos he]
      exact ⟨World.block_lt_of_cell? W _ a, _, a, .int _ _⟩
    · rw [show 2 * (j / 2) + 1 = j by omega] at b
      dsimp only
      rw [if_neg he]
      exact ⟨World.block_lt_of_cell? W _ b, _, b, .int _ _⟩
  · cases hg
theorem hin5 : ∀ t ∈ Tryd.f5.params.toList, t ∈ Go.Abs.LT ∧ Tryd.prog.readableRec t = true ∧ t < Tryd.prog.types.size := by
  have h : (Tryd.f5.params.toList.all fun t => Go.Abs.LT.contains t && Tryd.prog.readableRec t && decide (t < Tryd.prog.types.size)) = true := by kernel_rfl
  intro t ht
  have := List.all_eq_true.1 h t ht
  simp only [Bool.and_eq_true, decide_eq_true_eq] at this
  exact ⟨by simpa using this.1.1, this.1.2, this.2⟩
theorem hrun5 : ∀ xs, TypedL Go.Abs.EG.T Tryd.f5.params.toList xs → ∃ n, runV Tryd.prog Go.Abs.EG n 5 xs = some (.bool true) :=
  law5 fun a0 a1 _ _ => ⟨20000, plain5 20000 (Nat.le_refl _) a0 a1⟩
def lay0 : Obj → Obj
  | .cells _ t frozen => .cells ((List.range 256).map fun c => Value.int .u8 (Lib.firstT c)).toArray t frozen
  | o => o
def lay1 : Obj → Obj
  | .cells _ t frozen => .cells ((List.range 32).map fun j => Value.int .u8 (if j % 2 = 0 then Lib.accLo (j / 2) else Lib.accHi (j / 2))).toArray t frozen
  | o => o
def litCell : DataW Unit → Value
  | .lit (.int k n) => .int k n
  | _ => .bool false
def layD : DataW Unit → Obj → Obj
  | .agg ds, .cells _ t frozen => .cells (ds.map litCell).toArray t frozen
  | _, o => o
/-- a world for the witness: the tables hold what the text lays -/
noncomputable def laidWorld (os : Os) : World :=
  { World.holding Tryd.prog os ⟨#[], #[], []⟩ with heap := ((World.holding Tryd.prog os ⟨#[], #[], []⟩).heap.modify 0 lay0).modify 1 lay1 |>.modify 3 (layD Rows.laid_internal_strconv_uint64pow10) |>.modify 4 (layD Rows.laid_math_bits_deBruijn32tab) |>.modify 5 (layD Rows.laid_math_bits_deBruijn64tab) }
theorem laid_met (os : Os) : laidMet Tryd.prog Rows.patternMatchingMatchesSpecRow.laid ((laidWorld os).forCall (fun _ _ => 0) ⟨#[], #[.agg #[.int .i64 0, .slice none 0 0, .slice none 0 0, .int .i64 0, .int .i64 0], .slice none 0 0], []⟩).memory :=
  laidMet_of_run' 8 (by kernel_rfl) (by kernel_rfl)
theorem reads (os : Os) {H : Type} (enc : TypeId × Value → H) : ∃ places, DataW.whole enc Tryd.prog ((laidWorld os).forCall (fun _ _ => 0) ⟨#[], #[.agg #[.int .i64 0, .slice none 0 0, .slice none 0 0, .int .i64 0, .int .i64 0], .slice none 0 0], []⟩).memory Tryd.f5.params.toList Rows.patternMatchingMatchesSpecSpec.vars false (#[.agg #[.int .i64 0, .slice none 0 0, .slice none 0 0, .int .i64 0, .int .i64 0], .slice none 0 0] : Array Value).toList 8 = some ([.agg [.lit (.int .i64 0), .nil, .nil, .lit (.int .i64 0), .lit (.int .i64 0)], .nil], [], places) :=
  ⟨[], by kernel_rfl⟩
set_option maxRecDepth 100000 in
theorem lifted5 (os : Os) (started : os.Started) (H : Type) (enc : TypeId × Value → H) (F : Stop.Interp) :
    ReturnsInHanded {} Tryd.checked os 5 .any ((OpenSpec.ofChange Rows.patternMatchingMatchesSpecSpec).preRow enc Tryd.prog Tryd.f5 Rows.patternMatchingMatchesSpecRow.domain false Rows.patternMatchingMatchesSpecRow.laid) (((OpenSpec.ofChange Rows.patternMatchingMatchesSpecSpec).at F).post enc Tryd.prog Tryd.f5 false true false false) := by
  obtain ⟨places, hx⟩ := reads os enc
  refine returnsInHanded_of_row (C := Tryd.checked) (s := OpenSpec.ofChange Rows.patternMatchingMatchesSpecSpec) own started (by kernel_rfl) Tryd.func5
    (witness_row_at (enc := enc) (C := Tryd.checked) false (laidWorld os) #[.agg #[.int .i64 0, .slice none 0 0, .slice none 0 0, .int .i64 0, .int .i64 0], .slice none 0 0] rfl (by kernel_rfl) (by kernel_rfl) (by kernel_rfl)
      (OpenSpec.preRow_of_cond 8 hx (by kernel_rfl) (fun k hk => by cases hk) (by kernel_rfl) (laid_met os))) ?_
  intro W base args ds gs before hval hW _ _ _ hL _ _
  exact law_contract Go.Abs.goodG Go.Abs.LT_ok laidOut ⟨4, by kernel_rfl, Tryd.underlying4⟩ hin5 rfl (fun H ds h => by
    match ds, h with
    | [d0, d1], _ => rfl) hrun5 (glob hL) hval hW
theorem patternMatchingMatchesSpecRowHolds : Rows.PatternMatchingMatchesSpecSaid :=
  OpenClaim.holds_of_cond 5 Tryd.f5 rfl rfl rfl rfl rfl rfl rfl ⟨rfl, rfl, rfl, rfl, rfl⟩ rfl rfl rfl rfl rfl (by kernel_rfl) Tryd.func5 (by kernel_rfl)
    (of_decide_eq_true (by kernel_rfl)) (by unfold Func.isWrapper; first | (rw [if_pos (by decide +kernel)]; kernel_rfl) | (rw [if_neg (by decide +kernel)]; exact ⟨rfl, rfl⟩))
    (fun os started H enc _ F => by rw [OpenClaim.pre_eq_preRow]; exact lifted5 os started H enc F)
theorem standsIn (f : FuncId) (fn : Func) (hf : Tryd.pinned.checked.prog.funcNamed "glosswright/glosswrightlaw6.PatternMatchingMatchesSpec" = some f) (hfn : Tryd.pinned.checked.prog.funcs[f]? = some fn) :
    false = Tryd.pinned.checked.prog.looks [] ∧ ∀ (j : Nat) t, fn.params[j]? = some t → Tryd.pinned.checked.prog.wantsStandIn t = false := by
  obtain rfl : f = 5 := Option.some.inj ((show Tryd.prog.funcNamed "glosswright/glosswrightlaw6.PatternMatchingMatchesSpec" = some 5 by kernel_rfl).symm.trans hf) |>.symm
  obtain rfl : fn = Tryd.f5 := (Option.some.inj (Tryd.func5.symm.trans hfn)).symm
  have h : (Tryd.f5.params.toList.all fun t => !Tryd.prog.wantsStandIn t) = true := by kernel_rfl
  refine ⟨by kernel_rfl, fun j t ht => ?_⟩
  have := List.all_eq_true.1 h t (List.mem_of_getElem? (by simpa using ht))
  exact (by simpa using this : Tryd.prog.wantsStandIn t = false)
theorem patternMatchingMatchesSpec : Rows.PatternMatchingMatchesSpecCardSaid :=
  Claim7.holds_tied_plain_at .later [] _ _ _ _ patternMatchingMatchesSpecRowHolds (fun _ h => by cases h) (by kernel_rfl) (fun _ h => by cases h) patternMatchingMatchesSpec_row_tie rfl ⟨rfl, rfl⟩ (by kernel_rfl) rfl standsIn (by kernel_rfl)
#print axioms patternMatchingMatchesSpec
end Go.Proofs.YthiikobbfpfbkaaDoor
