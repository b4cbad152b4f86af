/-
  PROVED: Parse returns the lexicon or the fault that the specification requires, for all texts. The card's condition alone: the listed variables hold what the program's text lays.
-/
import Derived.Test.YtgbhimkbfaebeaaGreatDoorCards
import Derived.Test.YtgbhimkbfaebeaaGreatDoorTie
import Derived.Test.YtgbhimkbfaebeaaGreatDoorWG
import Derived.Test.YtgbhimkbfaebeaaGreatDoorWLaw
import Derived.Test.YtgbhimkbfaebeaaGreatDoorPD
import Derived.WalkKit
import Derived.ProofKit
import Derived.OpenShut
import Derived.Deep.DeepHandedRow
import Derived.Lib.LaidU8
namespace Go.Proofs.YtgbhimkbfaebeaaGreatDoor
open Go.ChangeShapes Go.WideShapes Go.ChangeAt Go.RowKit
open Go.Abs
set_option linter.unusedVariables false
set_option linter.unusedSimpArgs false
set_option linter.unnecessarySimpa false
theorem own : ownKnob Tryz.prog.godebug = none := by kernel_rfl
theorem laidOut : laidOutB Tryz.prog = true := by kernel_rfl
theorem laidPlain : (Rows.lexiconParseMatchesSpecRow.laid.filter fun x => x.2.handleName?.isSome) = [] := by kernel_rfl
theorem glob {W : World} (h : laidMetH Tryz.prog Rows.lexiconParseMatchesSpecRow.laid W) (hsh : W.ShapedOpen Tryz.prog) : Glob (there W) W := by
 unfold laidMetH at h
 rw [laidPlain] at h
 exact globOf h hsh
theorem hin4 : ∀ t ∈ Tryz.f4.params.toList, t ∈ Go.Abs.LT ∧ Tryz.prog.readableRec t = true ∧ t < Tryz.prog.types.size := by
 have h : (Tryz.f4.params.toList.all fun t => Go.Abs.LT.contains t && Tryz.prog.readableRec t && decide (t < Tryz.prog.types.size)) = true := by kernel_rfl
 intro t ht
 have := List.all_eq_true.1 h t ht
 simp only [Bool.and_eq_true, decide_eq_true_eq] at this
 exact ⟨by simpa using this.1.1, this.1.2, this.2⟩
theorem hrun4 : ∀ xs, TypedL Go.Abs.EG.T Tryz.f4.params.toList xs → ∃ n, runV Tryz.prog Go.Abs.EG n 4 xs = some (.bool true) :=
 law4 fun a0 _ => ⟨5000, Lx.parse_eq a0⟩
def lay0 : Obj → Obj
 | .cells _ t frozen => .cells ((List.range 256).map fun c => Value.int .u8 (Lib.firstT c)).toArray t frozen
 | o => o
def lay1 : Obj → Obj
 | .cells _ t frozen => .cells ((List.range 32).map fun j => Value.int .u8 (if j % 2 = 0 then Lib.accLo (j / 2) else Lib.accHi (j / 2))).toArray t frozen
 | o => o
def litCell : DataW Unit → Value
 | .lit (.int k n) => .int k n
 | _ => .bool false
def layD : DataW Unit → Obj → Obj
 | .agg ds, .cells _ t frozen => .cells (ds.map litCell).toArray t frozen
 | _, o => o
def layE (b : Nat) : Obj → Obj
 | .cells _ t frozen => .cells #[.iface 148 (.pointer (some ⟨b, 0, none⟩))] t frozen
 | o => o
noncomputable def laidWorld (os : Os) : World :=
 { World.holding Tryz.prog os ⟨#[], #[], []⟩ with heap := ((World.holding Tryz.prog os ⟨#[], #[], []⟩).heap.modify 2 lay0).modify 3 lay1 |>.modify 1 (layD Rows.laid_internal_strconv_uint64pow10) |>.modify 6 (layD Rows.laid_math_bits_deBruijn32tab) |>.modify 7 (layD Rows.laid_math_bits_deBruijn64tab) |>.modify 4 (layE 14) |>.modify 5 (layE 13) |>.push (.cells #[.string ⟨#[118, 97, 108, 117, 101, 32, 111, 117, 116, 32, 111, 102, 32, 114, 97, 110, 103, 101]⟩] 150 (0, 0)) |>.push (.cells #[.string ⟨#[105, 110, 118, 97, 108, 105, 100, 32, 115, 121, 110, 116, 97, 120]⟩] 150 (0, 0)) }
theorem laid_met (os : Os) : laidMet Tryz.prog Rows.lexiconParseMatchesSpecRow.laid ((laidWorld os).forCall (fun _ _ => 0) ⟨#[], #[.string ByteArray.empty], []⟩).memory :=
 laidMet_of_run' 8 (by kernel_rfl) (by kernel_rfl)
theorem reads (os : Os) {H : Type} (enc : TypeId × Value → H) : ∃ places, DataW.whole enc Tryz.prog ((laidWorld os).forCall (fun _ _ => 0) ⟨#[], #[.string ByteArray.empty], []⟩).memory Tryz.f4.params.toList Rows.lexiconParseMatchesSpecSpec.vars false (#[.string ByteArray.empty] : Array Value).toList 8 = some ([.lit (.string [])], [], places) :=
 ⟨[], by kernel_rfl⟩
set_option maxRecDepth 100000 in
theorem lifted4 (os : Os) (started : os.Started) (H : Type) (enc : TypeId × Value → H) (F : Stop.Interp) :
  ReturnsInHanded {} Tryz.checked os 4 .any ((OpenSpec.ofChange Rows.lexiconParseMatchesSpecSpec).preRow enc Tryz.prog Tryz.f4 Rows.lexiconParseMatchesSpecRow.domain false Rows.lexiconParseMatchesSpecRow.laid) (((OpenSpec.ofChange Rows.lexiconParseMatchesSpecSpec).at F).post enc Tryz.prog Tryz.f4 false true false false) := by
 obtain ⟨places, hx⟩ := reads os enc
 refine returnsInHanded_of_row (C := Tryz.checked) (s := OpenSpec.ofChange Rows.lexiconParseMatchesSpecSpec) own started (by kernel_rfl) Tryz.func4
  (witness_row_at (enc := enc) (C := Tryz.checked) false (laidWorld os) #[.string ByteArray.empty] rfl (by kernel_rfl) (by kernel_rfl) (by kernel_rfl)
   (OpenSpec.preRow_of_cond 8 hx (by kernel_rfl) (fun k hk => by cases hk) (by kernel_rfl) (laid_met os))) ?_
 intro W base args ds gs before hval hW _ _ _ hL hsh _
 exact law_contract Go.Abs.goodG Go.Abs.LT_ok laidOut ⟨4, by kernel_rfl, Tryz.underlying4⟩ hin4 rfl (fun H ds h => by
  match ds, h with
  | [d0], _ => rfl) hrun4 (glob hL hsh) hval hW
theorem lexiconParseMatchesSpecRowHolds : Rows.LexiconParseMatchesSpecSaid :=
 OpenClaim.holds_of_cond 4 Tryz.f4 rfl rfl rfl rfl rfl rfl rfl ⟨rfl, rfl, rfl, rfl, rfl⟩ rfl rfl rfl rfl rfl (by kernel_rfl) Tryz.func4 (by kernel_rfl)
  (of_decide_eq_true (by kernel_rfl)) (by unfold Func.isWrapper; first | (rw [if_pos (by decide +kernel)]; kernel_rfl) | (rw [if_neg (by decide +kernel)]; exact ⟨rfl, rfl⟩))
  (fun os started H enc _ F => by rw [OpenClaim.pre_eq_preRow]; exact lifted4 os started H enc F)
theorem standsIn (f : FuncId) (fn : Func) (hf : Tryz.pinned.checked.prog.funcNamed "glosswright/glosswrightlaw6.LexiconParseMatchesSpec" = some f) (hfn : Tryz.pinned.checked.prog.funcs[f]? = some fn) :
  true = Tryz.pinned.checked.prog.looks [] ∧ ∀ (j : Nat) t, fn.params[j]? = some t → Tryz.pinned.checked.prog.wantsStandIn t = false := by
 obtain rfl : f = 4 := Option.some.inj ((show Tryz.prog.funcNamed "glosswright/glosswrightlaw6.LexiconParseMatchesSpec" = some 4 by kernel_rfl).symm.trans hf) |>.symm
 obtain rfl : fn = Tryz.f4 := (Option.some.inj (Tryz.func4.symm.trans hfn)).symm
 have h : (Tryz.f4.params.toList.all fun t => !Tryz.prog.wantsStandIn t) = true := by kernel_rfl
 refine ⟨by kernel_rfl, fun j t ht => ?_⟩
 have := List.all_eq_true.1 h t (List.mem_of_getElem? (by simpa using ht))
 exact (by simpa using this : Tryz.prog.wantsStandIn t = false)
theorem lexiconParseMatchesSpec : Rows.LexiconParseMatchesSpecCardSaid :=
 Claim7.holds_tied_plain_at .later [] _ _ _ _ lexiconParseMatchesSpecRowHolds (fun _ h => by cases h) (by kernel_rfl) (fun _ h => by cases h) lexiconParseMatchesSpec_row_tie rfl ⟨rfl, rfl⟩ (by kernel_rfl) rfl standsIn (by kernel_rfl)
#print axioms lexiconParseMatchesSpec
end Go.Proofs.YtgbhimkbfaebeaaGreatDoor
