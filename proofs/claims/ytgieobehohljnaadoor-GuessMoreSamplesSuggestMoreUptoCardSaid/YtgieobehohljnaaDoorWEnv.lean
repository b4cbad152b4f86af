import Derived.Test.YtgieobehohljnaaDoorAbsW
import Derived.Test.YtgieobehohljnaaDoorAbsL
import Derived.Test.YtgieobehohljnaaDoorAbsN
import Derived.Test.YtgieobehohljnaaDoorAbsU
import Derived.Test.YtgieobehohljnaaDoorShelf
import Derived.Test.YtgieobehohljnaaDoorGz
import Derived.Test.YtgieobehohljnaaDoorProg
namespace Go.Abs
set_option linter.unusedVariables false
set_option maxRecDepth 100000
def ti3 : TI := ⟨.int .i64, 1, 8, .int .i64 (0), true⟩
def ti4 : TI := ⟨.bool, 1, 1, .bool false, true⟩
def ti5 : TI := ⟨.int .u8, 1, 1, .int .u8 (0), true⟩
def ti9 : TI := ⟨.str, 1, 16, .str ByteArray.empty, true⟩
def ti21 : TI := ⟨.int .i32, 1, 4, .int .i32 (0), true⟩
def ti22 : TI := ⟨.slice 40, 1, 24, .sl .nil [], true⟩
def ti24 : TI := ⟨.ptr 55, 1, 8, .nilptr, true⟩
def ti26 : TI := ⟨.struct [(0, 24)], 1, 8, .agg [.nilptr], true⟩
def ti28 : TI := ⟨.struct [(0, 3), (1, 3)], 2, 16, .agg [.int .i64 (0), .int .i64 (0)], true⟩
def ti32 : TI := ⟨.slice 45, 1, 24, .sl .nil [], true⟩
def ti40 : TI := ⟨.struct [(0, 9), (1, 9)], 2, 32, .agg [.str ByteArray.empty, .str ByteArray.empty], true⟩
def ti41 : TI := ⟨.slice 3, 1, 24, .sl .nil [], true⟩
def ti45 : TI := ⟨.struct [(0, 9), (1, 3), (2, 3)], 3, 32, .agg [.str ByteArray.empty, .int .i64 (0), .int .i64 (0)], true⟩
def ti52 : TI := ⟨.map 3 24, 1, 8, .nilmap, true⟩
def ti53 : TI := ⟨.map 9 3, 1, 8, .nilmap, true⟩
def ti55 : TI := ⟨.struct [(0, 52), (1, 53)], 2, 16, .agg [.nilmap, .nilmap], true⟩
def ti56 : TI := ⟨.map 9 45, 1, 8, .nilmap, true⟩
def T (t : Nat) : Option TI := match t with
  | 3 => some ti3
  | 4 => some ti4
  | 5 => some ti5
  | 9 => some ti9
  | 21 => some ti21
  | 22 => some ti22
  | 24 => some ti24
  | 26 => some ti26
  | 28 => some ti28
  | 32 => some ti32
  | 40 => some ti40
  | 41 => some ti41
  | 45 => some ti45
  | 52 => some ti52
  | 53 => some ti53
  | 55 => some ti55
  | 56 => some ti56
  | _ => none
theorem T_ok : ∀ t i, T t = some i → tiOf Proofs.Tryd.prog t = some i := by
  intro t i h
  unfold T at h
  split at h <;> first | (cases h; kernel_rfl) | (cases h; done)
def loopT (f k : Nat) : List Nat := match f, k with
  | 25, 3 => [2, 3, 6, 7, 8]
  | 18, 5 => [2, 25, 26, 27]
  | 21, 5 => [0, 2, 3, 4, 5]
  | 19, 4 => [0, 2, 15, 16]
  | 6, 13 => [6, 14, 73, 74, 75]
  | 6, 17 => [6, 14, 17, 18, 73, 74, 75, 79, 80, 81]
  | 14, 4 => [0, 1, 4, 12, 13]
  | 11, 4 => [2, 9, 10, 11]
  | 13, 5 => [2, 27, 28, 29]
  | 13, 8 => [2, 6, 27, 28, 29, 33, 34, 35]
  | 16, 5 => [0, 2, 3, 4, 5]
  | 31, 18 => [0, 1, 4, 6, 7, 8]
  | 22, 4 => [0, 2, 3]
  | 10, 4 => [0, 2, 3, 19, 20, 21]
  | 10, 13 => [2, 3, 6, 43, 44, 45]
  | 10, 19 => [2, 3, 6, 8, 9, 11, 12, 43, 44, 45]
  | 12, 7 => [4, 5, 6, 8, 9, 10]
  | 12, 10 => [4, 5, 6, 8, 9, 10, 36]
  | 12, 17 => [4, 5, 13, 67]
  | _, _ => []
def condT (f k : Nat) : List Nat := match f, k with
  | 26, 11 => [0, 1, 4, 6]
  | 26, 12 => [4]
  | 26, 13 => [0, 1, 4]
  | 26, 16 => [0, 1, 4]
  | 26, 19 => [4]
  | 27, 11 => [0, 1, 4, 6]
  | 27, 12 => [4]
  | 27, 13 => [0, 1, 4]
  | 27, 16 => [0, 1, 4]
  | 27, 19 => [4]
  | 25, 9 => [2, 3, 6, 7, 8]
  | 25, 14 => [2, 3, 6, 7, 8]
  | 18, 24 => [2, 3]
  | 18, 28 => [2, 25, 26, 27]
  | 18, 46 => [2, 25, 26, 27]
  | 21, 10 => [0, 2, 3]
  | 21, 15 => [0, 2, 3, 4, 5]
  | 21, 28 => [0, 2, 3, 4, 5, 6, 7]
  | 35, 10 => [2, 3]
  | 19, 13 => [0, 2]
  | 19, 17 => [0, 2, 15, 16]
  | 19, 49 => [0, 2, 15, 16]
  | 6, 22 => [0, 1, 2, 6]
  | 6, 37 => [0, 2, 6, 7]
  | 6, 72 => [6, 12, 14]
  | 6, 76 => [6, 14, 73, 74, 75]
  | 6, 82 => [6, 14, 17, 18, 73, 74, 75, 79, 80, 81]
  | 6, 116 => [6, 14, 73, 74, 75]
  | 14, 10 => [0, 1, 4]
  | 14, 14 => [0, 1, 4, 12, 13]
  | 14, 24 => [0, 1, 4, 12, 13]
  | 11, 7 => [0, 2]
  | 11, 12 => [2, 9, 10, 11]
  | 11, 19 => [2, 3, 4, 9, 10, 11]
  | 11, 25 => [2, 9, 10, 11]
  | 13, 26 => [2, 3]
  | 13, 30 => [2, 27, 28, 29]
  | 13, 36 => [2, 6, 27, 28, 29, 33, 34, 35]
  | 13, 41 => [2, 6, 27, 28, 29, 33, 34, 35]
  | 13, 44 => [2, 27, 28, 29]
  | 16, 9 => [0, 2, 3]
  | 16, 14 => [0, 2, 3, 4, 5]
  | 16, 19 => [0, 2, 3, 4, 5, 6]
  | 31, 16 => [0, 1, 4, 6, 7]
  | 31, 20 => [0, 1, 4, 6, 7]
  | 31, 24 => [0, 1, 4, 6, 7]
  | 31, 28 => [0, 1, 4, 6, 7]
  | 31, 34 => [0, 1, 4, 6, 7]
  | 31, 37 => [0, 1, 4, 6, 7, 8]
  | 31, 51 => [0, 1, 4, 6, 7, 8, 9]
  | 31, 65 => [4, 7]
  | 32, 4 => [0, 2]
  | 32, 6 => [0, 2]
  | 32, 8 => [2]
  | 22, 22 => [0, 2]
  | 22, 26 => [0, 2, 3]
  | 22, 54 => [0, 2, 3]
  | 10, 16 => [0, 2, 3]
  | 10, 22 => [0, 2, 3, 19, 20, 21]
  | 10, 29 => [0, 2, 3, 4, 5, 19, 20, 21]
  | 10, 36 => [0, 2, 3, 19, 20, 21]
  | 10, 46 => [2, 3, 6, 43, 44, 45]
  | 10, 69 => [2, 3, 6, 8, 9, 11, 12, 43, 44, 45]
  | 10, 85 => [2, 3, 6, 8, 9, 11, 12, 13, 43, 44, 45]
  | 12, 18 => [1, 2, 4, 5]
  | 12, 29 => [4, 5, 6, 8, 9, 10]
  | 12, 38 => [4, 5, 6, 8, 9, 10, 36]
  | 12, 52 => [4, 5, 6, 8, 9, 10]
  | 12, 69 => [4, 5, 13, 67]
  | _, _ => []
def blkT (f k : Nat) : List Nat := match f, k with
  | 25, 0 => [2, 3]
  | 25, 1 => [2, 3, 6, 7, 8]
  | 18, 0 => [2]
  | 18, 1 => [2, 25, 26, 27]
  | 21, 0 => [2, 3, 4]
  | 21, 1 => [0, 2, 3, 4, 5]
  | 19, 0 => [2]
  | 19, 1 => [0, 2, 15, 16]
  | 6, 0 => [6]
  | 6, 1 => [6, 14, 73, 74, 75]
  | 6, 2 => [6, 14, 18, 73, 74, 75]
  | 6, 3 => [6, 14, 17, 18, 73, 74, 75, 79, 80, 81]
  | 14, 0 => [4]
  | 14, 1 => [0, 1, 4, 12, 13]
  | 11, 0 => [2]
  | 11, 1 => [2, 9, 10, 11]
  | 13, 0 => [2]
  | 13, 1 => [2, 27, 28, 29]
  | 13, 2 => [2, 6, 27, 28, 29]
  | 13, 3 => [2, 6, 27, 28, 29, 33, 34, 35]
  | 16, 0 => [2, 3, 4]
  | 16, 1 => [0, 2, 3, 4, 5]
  | 31, 0 => [4, 6, 7]
  | 31, 1 => [0, 1, 4, 6, 7, 8]
  | 22, 0 => [2]
  | 22, 1 => [0, 2, 3]
  | 10, 0 => [0, 2, 3]
  | 10, 1 => [0, 2, 3, 19, 20, 21]
  | 10, 2 => [2, 3, 6]
  | 10, 3 => [2, 3, 6, 43, 44, 45]
  | 10, 4 => [2, 3, 6, 43, 44, 45]
  | 10, 5 => [2, 3, 6, 8, 9, 11, 12, 43, 44, 45]
  | 12, 0 => [4, 5, 8]
  | 12, 1 => [4, 5, 6, 8, 9, 10]
  | 12, 2 => [4, 5, 6, 8, 9, 10]
  | 12, 3 => [4, 5, 6, 8, 9, 10, 36]
  | 12, 4 => [4, 5, 13]
  | 12, 5 => [4, 5, 13, 67]
  | _, _ => []
def accT (f : Nat) : List Nat := match f with
  | 12 => [13]
  | 16 => [4]
  | 21 => [4]
  | _ => []
def ownT : List Nat := [45, 43, 58, 36, 56, 47, 23, 48, 57, 49, 54, 46, 44, 59, 50]
def rowT : List Nat := [45, 43, 58, 36, 56, 47, 23, 48, 57, 49, 54, 46, 44, 59, 50]
def E0 : Env := { T := T, pureF := fun f => !ownT.contains f, keep := fun f => ⟨loopT f, condT f, blkT f⟩, acc := accT, rowF := fun f => rowT.contains f, rowM := false, ora := fun _ => none, oraD := fun _ => none }
theorem names_ok : ∀ (f : Nat) fn, Proofs.Tryd.prog.funcs[f]? = some fn → (fn.name == "runtime.NumGoroutine") = false := by
  intro f fn h
  have hall : (Proofs.Tryd.prog.funcs.toList.all fun fn => !(fn.name == "runtime.NumGoroutine")) = true := by kernel_rfl
  have := List.all_eq_true.1 hall fn (List.mem_of_getElem? (by simpa using h))
  simpa using this
theorem good0 {DR : Prop} : Good DR Proofs.Tryd.prog E0 := ⟨by kernel_rfl, T_ok, names_ok, (fun f F h => by cases h), (fun f F h => by cases h)⟩
def oraT1 (f : Nat) : Option (List V → Option V) := match f with
  | 35 => some decodeF
  | 33 => some ixbyteF
  | _ => none
def E1 : Env := { E0 with ora := oraT1 }
def oraT (f : Nat) : Option (List V → Option V) := match f with
  | f => oraT1 f
def E : Env := { E0 with ora := oraT }
theorem tabs_of_glob {S : Nat → Nat → Prop} {w : World} (h : Glob S w) : Lib.Utf8Tabs 0 1 w := by
  refine ⟨fun c hc => ?_, fun i hi => ?_⟩
  · obtain ⟨_, v, h2, h3⟩ := h 0 firstTab rfl c (.int .u8 (Lib.firstT c)) (by simp [firstTab, hc])
    cases h3
    exact h2
  · obtain ⟨_, v, h2, h3⟩ := h 1 acceptTab rfl (2 * i) (.int .u8 (Lib.accLo i)) (by simp [acceptTab, show 2 * i < 32 by omega, show 2 * i / 2 = i by omega])
    cases h3
    obtain ⟨_, v, g2, g3⟩ := h 1 acceptTab rfl (2 * i + 1) (.int .u8 (Lib.accHi i)) (by simp [acceptTab, show 2 * i + 1 < 32 by omega, show (2 * i + 1) / 2 = i by omega])
    cases g3
    exact ⟨h2, g2⟩
theorem is35 : Is Proofs.Tryd.prog 35 := ⟨Proofs.Tryd.f35, Proofs.Tryd.func35, by kernel_rfl, by kernel_rfl⟩
theorem ora35 : OraOk False Proofs.Tryd.prog 35 decodeF := decode_sound (fun h => h) is35 fun S w hg => ⟨0, 1, tabs_of_glob hg, fun s => Proofs.Tryd.utf8_DecodeRuneInString s w (tabs_of_glob hg)⟩
theorem is33 : Is Proofs.Tryd.prog 33 := ⟨Proofs.Tryd.f33, Proofs.Tryd.func33, by kernel_rfl, by kernel_rfl⟩
theorem ora33 : OraOk False Proofs.Tryd.prog 33 ixbyteF := ixbyte_sound is33 fun s c w => Proofs.Tryd.strings_IndexByte s c w
theorem ora1_ok : OSound False Proofs.Tryd.prog E1 := by
  intro f F h
  have h : oraT1 f = some F := h
  unfold oraT1 at h
  split at h <;> first | (cases h; done) | skip
  · cases h; exact ora35
  · cases h; exact ora33
theorem good1 : Good False Proofs.Tryd.prog E1 := ⟨(good0 (DR := False)).mixed, T_ok, names_ok, ora1_ok, (fun f F h => by cases h)⟩
theorem ora_ok : OSound False Proofs.Tryd.prog E := by
  intro f F h
  have h : oraT f = some F := h
  unfold oraT at h
  exact ora1_ok f F h
theorem good : Good False Proofs.Tryd.prog E := ⟨(good0 (DR := False)).mixed, T_ok, names_ok, ora_ok, (fun f F h => by cases h)⟩
structure S25 where
  fRoot : (Option Gz)
def e25 : S25 → V := fun x => (.agg [(eGz x.fRoot)])
structure S27 where
  fCode : Int
  fIndex : Int
def e27 : S27 → V := fun x => (.agg [(vI x.fCode), (vI x.fIndex)])
structure S39 where
  fWord : ByteArray
  fTag : ByteArray
def e39 : S39 → V := fun x => (.agg [(.str x.fWord), (.str x.fTag)])
structure S44 where
  fTag : ByteArray
  fLength : Int
  fCount : Int
def e44 : S44 → V := fun x => (.agg [(.str x.fTag), (vI x.fLength), (vI x.fCount)])
end Go.Abs
