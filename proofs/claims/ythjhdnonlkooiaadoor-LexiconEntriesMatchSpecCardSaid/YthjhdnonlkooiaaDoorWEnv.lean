import Derived.Test.YthjhdnonlkooiaaDoorAbsW
import Derived.Test.YthjhdnonlkooiaaDoorAbsL
import Derived.Test.YthjhdnonlkooiaaDoorAbsN
import Derived.Test.YthjhdnonlkooiaaDoorAbsU
import Derived.Test.YthjhdnonlkooiaaDoorShelf
import Derived.Test.YthjhdnonlkooiaaDoorAbsM
import Derived.Test.YthjhdnonlkooiaaDoorGL
import Derived.Test.YthjhdnonlkooiaaDoorProg
namespace Go.Abs
set_option linter.unusedVariables false
set_option maxRecDepth 100000
theorem Ops.hv {X : Cx} {ops : List Oper} {i : Nat} {σ : St} {Q : St → Prop} (P : (Nat → St → Prop) → Prop) (h1 : P fun j τ => Ops X ops j τ Q) (h2 : (P fun j τ => Ops X ops j τ Q) → Ops X ops i σ Q) : Ops X ops i σ Q := h2 h1
def ti3 : TI := ⟨.int .i64, 1, 8, .int .i64 (0), true⟩
def ti4 : TI := ⟨.bool, 1, 1, .bool false, true⟩
def ti5 : TI := ⟨.int .u8, 1, 1, .int .u8 (0), true⟩
def ti9 : TI := ⟨.str, 1, 16, .str ByteArray.empty, true⟩
def ti21 : TI := ⟨.int .i32, 1, 4, .int .i32 (0), true⟩
def ti28 : TI := ⟨.struct [(0, 3), (1, 3)], 2, 16, .agg [.int .i64 (0), .int .i64 (0)], true⟩
def ti36 : TI := ⟨.slice 9, 1, 24, .sl .nil [], true⟩
def ti44 : TI := ⟨.slice 3, 1, 24, .sl .nil [], true⟩
def ti50 : TI := ⟨.slice 89, 1, 24, .sl .nil [], true⟩
def ti52 : TI := ⟨.struct [(0, 50)], 1, 24, .agg [.sl .nil []], true⟩
def ti53 : TI := ⟨.slice 62, 1, 24, .sl .nil [], true⟩
def ti62 : TI := ⟨.struct [(0, 9), (1, 9), (2, 36), (3, 3)], 4, 64, .agg [.str ByteArray.empty, .str ByteArray.empty, .sl .nil [], .int .i64 (0)], true⟩
def ti81 : TI := ⟨.struct [(0, 52), (1, 53), (2, 3)], 3, 56, .agg [.sl .nil [], .sl .nil [], .int .i64 (0)], true⟩
def ti87 : TI := ⟨.slice 91, 1, 24, .sl .nil [], true⟩
def ti89 : TI := ⟨.struct [(0, 9), (1, 87)], 2, 40, .agg [.str ByteArray.empty, .sl .nil []], true⟩
def ti91 : TI := ⟨.struct [(0, 9), (1, 9), (2, 36), (3, 3), (4, 3)], 5, 72, .agg [.str ByteArray.empty, .str ByteArray.empty, .sl .nil [], .int .i64 (0), .int .i64 (0)], true⟩
def ti93 : TI := ⟨.struct [(0, 3), (1, 62)], 5, 72, .agg [.int .i64 (0), .str ByteArray.empty, .str ByteArray.empty, .sl .nil [], .int .i64 (0)], true⟩
def ti94 : TI := ⟨.slice 93, 1, 24, .sl .nil [], true⟩
def ti118 : TI := ⟨.slice 36, 1, 24, .sl .nil [], true⟩
def T (t : Nat) : Option TI := match t with
  | 3 => some ti3
  | 4 => some ti4
  | 5 => some ti5
  | 9 => some ti9
  | 21 => some ti21
  | 28 => some ti28
  | 36 => some ti36
  | 44 => some ti44
  | 50 => some ti50
  | 52 => some ti52
  | 53 => some ti53
  | 62 => some ti62
  | 81 => some ti81
  | 87 => some ti87
  | 89 => some ti89
  | 91 => some ti91
  | 93 => some ti93
  | 94 => some ti94
  | 118 => some ti118
  | _ => none
theorem T_ok : ∀ t i, T t = some i → tiOf Proofs.Tryd.prog t = some i := by
  intro t i h
  unfold T at h
  split at h <;> first | (cases h; kernel_rfl) | (cases h; done)
def loopT (f k : Nat) : List Nat := match f, k with
  | 78, 2 => [0, 1, 4, 9, 10, 11]
  | 76, 3 => [2, 3, 6, 7, 8]
  | 52, 4 => [1, 2, 18, 19]
  | 72, 5 => [2, 4, 5, 24, 25, 26]
  | 72, 13 => [2, 4, 41, 42, 43]
  | 72, 20 => [2, 4, 9, 41, 42, 43, 72, 73, 74]
  | 39, 4 => [0, 2, 15, 16]
  | 32, 5 => [2, 25, 26, 27]
  | 60, 5 => [0, 2, 3, 4, 5]
  | 73, 3 => [0, 2, 3, 9, 10, 11]
  | 73, 11 => [2, 6, 25, 26, 27]
  | 30, 4 => [0, 1, 4, 12, 13]
  | 20, 4 => [0, 1, 4, 12, 13]
  | 28, 5 => [1, 2, 3, 21, 22, 23]
  | 28, 10 => [1, 2, 3, 4, 5, 6, 21, 22, 23]
  | 28, 17 => [1, 2, 3, 4, 21, 22, 23, 57, 58, 59]
  | 35, 4 => [0, 2, 3]
  | 16, 5 => [2, 27, 28, 29]
  | 16, 8 => [2, 6, 27, 28, 29, 33, 34, 35]
  | 41, 5 => [0, 2, 3, 4, 5]
  | 65, 18 => [0, 1, 4, 6, 7, 8]
  | 37, 4 => [4, 11, 12, 13]
  | 29, 5 => [2, 4, 5, 6, 7, 8, 18, 19]
  | 29, 8 => [2, 4, 5, 7, 8, 9, 18, 19, 21, 22, 23]
  | 29, 11 => [2, 4, 5, 7, 8, 9, 11, 18, 19, 21, 22, 23, 33, 34, 35]
  | 29, 21 => [2, 4, 5, 7, 8, 9, 11, 14, 15, 18, 19, 21, 22, 23, 33, 34, 35]
  | 71, 2 => [0, 1, 4, 5]
  | _, _ => []
def condT (f k : Nat) : List Nat := match f, k with
  | 77, 11 => [0, 1, 4, 6]
  | 77, 12 => [4]
  | 77, 13 => [0, 1, 4]
  | 77, 16 => [0, 1, 4]
  | 77, 19 => [4]
  | 78, 12 => [0, 1, 4, 9, 10, 11]
  | 78, 19 => [0, 1, 4, 5, 6, 9, 10, 11]
  | 78, 28 => [0, 1, 4, 9, 10, 11]
  | 78, 35 => [4]
  | 79, 11 => [0, 1, 4, 6]
  | 79, 12 => [4]
  | 79, 13 => [0, 1, 4]
  | 79, 16 => [0, 1, 4]
  | 79, 19 => [4]
  | 76, 9 => [2, 3, 6, 7, 8]
  | 76, 14 => [2, 3, 6, 7, 8]
  | 52, 14 => [1, 2]
  | 52, 20 => [1, 2, 18, 19]
  | 52, 26 => [1, 2, 18, 19]
  | 72, 20 => [1, 2, 4, 5]
  | 72, 27 => [2, 4, 5, 24, 25, 26]
  | 72, 34 => [2, 4, 5, 24, 25, 26]
  | 72, 39 => [2, 4, 5]
  | 72, 44 => [2, 4, 41, 42, 43]
  | 72, 66 => [2, 4, 9, 41, 42, 43]
  | 72, 70 => [2, 4, 9, 41, 42, 43]
  | 72, 75 => [2, 4, 9, 41, 42, 43, 72, 73, 74]
  | 72, 80 => [2, 4, 9, 41, 42, 43, 72, 73, 74]
  | 72, 102 => [2, 4, 41, 42, 43]
  | 39, 13 => [0, 2]
  | 39, 17 => [0, 2, 15, 16]
  | 39, 49 => [0, 2, 15, 16]
  | 32, 24 => [2, 3]
  | 32, 28 => [2, 25, 26, 27]
  | 32, 46 => [2, 25, 26, 27]
  | 60, 10 => [0, 2, 3]
  | 60, 15 => [0, 2, 3, 4, 5]
  | 60, 28 => [0, 2, 3, 4, 5, 6, 7]
  | 81, 10 => [2, 3]
  | 73, 12 => [0, 2, 3, 9, 10, 11]
  | 73, 20 => [0, 2, 3, 9, 10, 11]
  | 73, 28 => [2, 6, 25, 26, 27]
  | 9, 11 => [1, 2, 4]
  | 9, 22 => [1, 2, 4, 5, 6]
  | 9, 36 => [1, 2, 4, 5, 6]
  | 9, 52 => [4, 5, 6, 8]
  | 9, 55 => [4, 5, 6, 8]
  | 30, 10 => [0, 1, 4]
  | 30, 14 => [0, 1, 4, 12, 13]
  | 30, 66 => [0, 1, 4, 12, 13]
  | 20, 10 => [0, 1, 4]
  | 20, 14 => [0, 1, 4, 12, 13]
  | 20, 24 => [0, 1, 4, 12, 13]
  | 28, 18 => [1, 2, 3]
  | 28, 24 => [1, 2, 3, 21, 22, 23]
  | 28, 31 => [1, 2, 3, 4, 5, 21, 22, 23]
  | 28, 36 => [1, 2, 3, 4, 5, 6, 21, 22, 23]
  | 28, 47 => [1, 2, 3, 4, 5, 6, 21, 22, 23]
  | 28, 53 => [1, 2, 3, 4, 5, 21, 22, 23]
  | 28, 60 => [1, 2, 3, 4, 21, 22, 23, 57, 58, 59]
  | 28, 72 => [1, 2, 3, 4, 8, 21, 22, 23, 57, 58, 59]
  | 28, 79 => [1, 2, 3, 4, 8, 21, 22, 23, 57, 58, 59]
  | 28, 101 => [1, 2, 3, 4, 21, 22, 23, 57, 58, 59]
  | 35, 22 => [0, 2]
  | 35, 26 => [0, 2, 3]
  | 35, 54 => [0, 2, 3]
  | 16, 26 => [2, 3]
  | 16, 30 => [2, 27, 28, 29]
  | 16, 36 => [2, 6, 27, 28, 29, 33, 34, 35]
  | 16, 41 => [2, 6, 27, 28, 29, 33, 34, 35]
  | 16, 44 => [2, 27, 28, 29]
  | 41, 9 => [0, 2, 3]
  | 41, 14 => [0, 2, 3, 4, 5]
  | 41, 19 => [0, 2, 3, 4, 5, 6]
  | 65, 16 => [0, 1, 4, 6, 7]
  | 65, 20 => [0, 1, 4, 6, 7]
  | 65, 24 => [0, 1, 4, 6, 7]
  | 65, 28 => [0, 1, 4, 6, 7]
  | 65, 34 => [0, 1, 4, 6, 7]
  | 65, 37 => [0, 1, 4, 6, 7, 8]
  | 65, 51 => [0, 1, 4, 6, 7, 8, 9]
  | 65, 65 => [4, 7]
  | 66, 4 => [0, 2]
  | 66, 6 => [0, 2]
  | 66, 8 => [2]
  | 37, 10 => [0, 4]
  | 37, 14 => [4, 11, 12, 13]
  | 37, 19 => [4, 11, 12, 13]
  | 29, 20 => [2, 4, 5, 6, 7, 8, 18, 19]
  | 29, 24 => [2, 4, 5, 7, 8, 9, 18, 19, 21, 22, 23]
  | 29, 36 => [2, 4, 5, 7, 8, 9, 11, 18, 19, 21, 22, 23, 33, 34, 35]
  | 29, 42 => [2, 4, 5, 7, 8, 9, 11, 13, 18, 19, 21, 22, 23, 33, 34, 35]
  | 29, 73 => [2, 4, 5, 7, 8, 9, 11, 14, 18, 19, 21, 22, 23, 33, 34, 35]
  | 29, 92 => [2, 4, 5, 7, 8, 9, 11, 14, 15, 18, 19, 21, 22, 23, 33, 34, 35]
  | 29, 107 => [2, 4, 5, 7, 8, 9, 11, 14, 15, 18, 19, 21, 22, 23, 33, 34, 35]
  | 59, 10 => [2, 3, 4]
  | 59, 20 => [2, 3, 4]
  | 59, 32 => [2, 3, 4]
  | 71, 15 => [0, 1, 4, 5]
  | 71, 26 => [0, 1, 4, 5]
  | 71, 35 => [0, 1, 4, 5]
  | 27, 13 => [1, 2, 4, 5]
  | 27, 20 => [1, 2, 4, 5]
  | 27, 29 => [4, 5, 7]
  | 27, 43 => [4, 5, 8]
  | _, _ => []
def blkT (f k : Nat) : List Nat := match f, k with
  | 78, 0 => [0, 1, 4]
  | 78, 1 => [0, 1, 4, 9, 10, 11]
  | 76, 0 => [2, 3]
  | 76, 1 => [2, 3, 6, 7, 8]
  | 52, 0 => [2]
  | 52, 1 => [1, 2, 18, 19]
  | 72, 0 => [2, 4, 5]
  | 72, 1 => [2, 4, 5, 24, 25, 26]
  | 72, 2 => [4]
  | 72, 3 => [2, 4, 41, 42, 43]
  | 72, 4 => [2, 4, 9, 41, 42, 43]
  | 72, 5 => [2, 4, 9, 41, 42, 43, 72, 73, 74]
  | 39, 0 => [2]
  | 39, 1 => [0, 2, 15, 16]
  | 32, 0 => [2]
  | 32, 1 => [2, 25, 26, 27]
  | 60, 0 => [2, 3, 4]
  | 60, 1 => [0, 2, 3, 4, 5]
  | 73, 0 => [0, 2, 3]
  | 73, 1 => [0, 2, 3, 9, 10, 11]
  | 73, 2 => [2, 6]
  | 73, 3 => [2, 6, 25, 26, 27]
  | 30, 0 => [4]
  | 30, 1 => [0, 1, 4, 12, 13]
  | 20, 0 => [4]
  | 20, 1 => [0, 1, 4, 12, 13]
  | 28, 0 => [2]
  | 28, 1 => [1, 2, 3, 21, 22, 23]
  | 28, 2 => [1, 2, 3, 4, 5, 21, 22, 23]
  | 28, 3 => [1, 2, 3, 4, 5, 6, 21, 22, 23]
  | 28, 4 => [1, 2, 3, 21, 22, 23]
  | 28, 5 => [1, 2, 3, 4, 21, 22, 23, 57, 58, 59]
  | 35, 0 => [2]
  | 35, 1 => [0, 2, 3]
  | 16, 0 => [2]
  | 16, 1 => [2, 27, 28, 29]
  | 16, 2 => [2, 6, 27, 28, 29]
  | 16, 3 => [2, 6, 27, 28, 29, 33, 34, 35]
  | 41, 0 => [2, 3, 4]
  | 41, 1 => [0, 2, 3, 4, 5]
  | 65, 0 => [4, 6, 7]
  | 65, 1 => [0, 1, 4, 6, 7, 8]
  | 37, 0 => [4]
  | 37, 1 => [4, 11, 12, 13]
  | 29, 0 => [4, 5, 7]
  | 29, 1 => [2, 4, 5, 6, 7, 8, 18, 19]
  | 29, 2 => [2, 4, 5, 7, 8, 9, 18, 19]
  | 29, 3 => [2, 4, 5, 7, 8, 9, 18, 19, 21, 22, 23]
  | 29, 4 => [2, 4, 5, 7, 8, 9, 18, 19, 21, 22, 23]
  | 29, 5 => [2, 4, 5, 7, 8, 9, 11, 18, 19, 21, 22, 23, 33, 34, 35]
  | 29, 6 => [2, 4, 5, 7, 8, 9, 11, 14, 15, 18, 19, 21, 22, 23, 33, 34, 35]
  | 29, 7 => [2, 4, 5, 7, 8, 9, 11, 14, 15, 18, 19, 21, 22, 23, 33, 34, 35]
  | 71, 0 => [0, 1, 4]
  | 71, 1 => [0, 1, 4, 5]
  | _, _ => []
def accT (f : Nat) : List Nat := match f with
  | 29 => [4, 6, 7, 9, 21]
  | 41 => [4]
  | 60 => [4]
  | 73 => [6]
  | _ => []
def ownT : List Nat := [112, 103, 94, 116, 108, 110, 118, 87, 92, 74, 67, 68, 111, 86, 89, 122, 121, 119, 106, 105, 115, 55, 57, 88, 90, 114, 95, 120, 104, 107, 93, 91]
def rowT : List Nat := [112, 103, 94, 116, 108, 110, 118, 87, 92, 74, 67, 43, 68, 111, 86, 89, 122, 121, 119, 106, 105, 115, 55, 57, 88, 90, 114, 95, 120, 104, 107, 93, 91]
def E0 : Env := { T := T, pureF := fun f => !ownT.contains f, keep := fun f => ⟨loopT f, condT f, blkT f⟩, acc := accT, rowF := fun f => rowT.contains f, rowM := false, ora := fun _ => none, oraD := fun _ => none, untF := fun f => [29].contains f }
theorem names_ok : ∀ (f : Nat) fn, Proofs.Tryd.prog.funcs[f]? = some fn → (fn.name == "runtime.NumGoroutine") = false := by
  intro f fn h
  have hall : (Proofs.Tryd.prog.funcs.toList.all fun fn => !(fn.name == "runtime.NumGoroutine")) = true := by kernel_rfl
  have := List.all_eq_true.1 hall fn (List.mem_of_getElem? (by simpa using h))
  simpa using this
theorem good0 {DR : Prop} : Good DR Proofs.Tryd.prog E0 := ⟨by kernel_rfl, T_ok, names_ok, (fun f F h => by cases h), (fun f F h => by cases h)⟩
def oraT1 (f : Nat) : Option (List V → Option V) := match f with
  | 81 => some decodeF
  | 61 => some ixbyteF
  | _ => none
def E1 : Env := { E0 with ora := oraT1 }
def oraT (f : Nat) : Option (List V → Option V) := match f with
  | f => oraT1 f
def oraDT (f : Nat) : Option (List D → List AObj → Option (D × List AObj)) := match f with
  | 87 => some (growF 1 16)
  | _ => none
def E : Env := { E0 with ora := oraT, oraD := oraDT }
theorem isd87 : Is Proofs.Tryd.prog 87 := ⟨Proofs.Tryd.f87, Proofs.Tryd.func87, by kernel_rfl, by kernel_rfl⟩
theorem orad87 : DOk False Proofs.Tryd.prog 87 (growF 1 16) := grow87 isd87
theorem oraD_ok : DSound False Proofs.Tryd.prog E := by
  intro f F h
  have h : oraDT f = some F := h
  unfold oraDT at h
  split at h <;> first | (cases h; done) | skip
  · cases h; exact orad87
theorem tabs_of_glob {S : Nat → Nat → Prop} {w : World} (h : Glob S w) : Lib.Utf8Tabs 0 1 w := by
  refine ⟨fun c hc => ?_, fun i hi => ?_⟩
  · obtain ⟨_, v, h2, h3⟩ := h 0 firstTab rfl c (.int .u8 (Lib.firstT c)) (by simp [firstTab, hc])
    cases h3
    exact h2
  · obtain ⟨_, v, h2, h3⟩ := h 1 acceptTab rfl (2 * i) (.int .u8 (Lib.accLo i)) (by simp [acceptTab, show 2 * i < 32 by omega, show 2 * i / 2 = i by omega])
    cases h3
    obtain ⟨_, v, g2, g3⟩ := h 1 acceptTab rfl (2 * i + 1) (.int .u8 (Lib.accHi i)) (by simp [acceptTab, show 2 * i + 1 < 32 by omega, show (2 * i + 1) / 2 = i by omega])
    cases g3
    exact ⟨h2, g2⟩
theorem is81 : Is Proofs.Tryd.prog 81 := ⟨Proofs.Tryd.f81, Proofs.Tryd.func81, by kernel_rfl, by kernel_rfl⟩
theorem ora81 : OraOk False Proofs.Tryd.prog 81 decodeF := decode_sound (fun h => h) is81 fun S w hg => ⟨0, 1, tabs_of_glob hg, fun s => Proofs.Tryd.utf8_DecodeRuneInString s w (tabs_of_glob hg)⟩
theorem is61 : Is Proofs.Tryd.prog 61 := ⟨Proofs.Tryd.f61, Proofs.Tryd.func61, by kernel_rfl, by kernel_rfl⟩
theorem ora61 : OraOk False Proofs.Tryd.prog 61 ixbyteF := ixbyte_sound is61 fun s c w => Proofs.Tryd.strings_IndexByte s c w
theorem ora1_ok : OSound False Proofs.Tryd.prog E1 := by
  intro f F h
  have h : oraT1 f = some F := h
  unfold oraT1 at h
  split at h <;> first | (cases h; done) | skip
  · cases h; exact ora81
  · cases h; exact ora61
theorem good1 : Good False Proofs.Tryd.prog E1 := ⟨(good0 (DR := False)).mixed, T_ok, names_ok, ora1_ok, (fun f F h => by cases h)⟩
theorem ora_ok : OSound False Proofs.Tryd.prog E := by
  intro f F h
  have h : oraT f = some F := h
  unfold oraT at h
  exact ora1_ok f F h
theorem good : Good False Proofs.Tryd.prog E := ⟨(good0 (DR := False)).mixed, T_ok, names_ok, ora_ok, oraD_ok⟩
structure S27 where
  fCode : Int
  fIndex : Int
def e27 : S27 → V := fun x => (.agg [(vI x.fCode), (vI x.fIndex)])
structure S90 where
  fBase : ByteArray
  fForm : ByteArray
  fTags : (List ByteArray)
  fNext : Int
  fWeight : Int
def e90 : S90 → V := fun x => (.agg [(.str x.fBase), (.str x.fForm), (vP eS x.fTags), (vI x.fNext), (vI x.fWeight)])
structure S88 where
  fName : ByteArray
  fItems : (List S90)
def e88 : S88 → V := fun x => (.agg [(.str x.fName), (vP e90 x.fItems)])
structure S51 where
  fClasses : (List S88)
def e51 : S51 → V := fun x => (.agg [(vP e88 x.fClasses)])
structure S61 where
  fBase : ByteArray
  fForm : ByteArray
  fTags : (List ByteArray)
  fWeight : Int
def e61 : S61 → V := fun x => (.agg [(.str x.fBase), (.str x.fForm), (vP eS x.fTags), (vI x.fWeight)])
structure S80 where
  fL : S51
  fFound : (List S61)
  fSteps : Int
def e80 : S80 → V := fun x => (.agg [(vP e88 x.fL.fClasses), (vP e61 x.fFound), (vI x.fSteps)])
structure S92 where
  fClass : Int
  fE : S61
def e92 : S92 → V := fun x => (.agg [(vI x.fClass), (.str x.fE.fBase), (.str x.fE.fForm), (vP eS x.fE.fTags), (vI x.fE.fWeight)])
end Go.Abs
