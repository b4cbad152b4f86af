import Derived.Test.YtgbhimkbfaebeaaGreatDoorAbsW
import Derived.Test.YtgbhimkbfaebeaaGreatDoorAbsL
import Derived.Test.YtgbhimkbfaebeaaGreatDoorAbsN
import Derived.Test.YtgbhimkbfaebeaaGreatDoorAbsU
import Derived.Test.YtgbhimkbfaebeaaGreatDoorShelf
import Derived.Test.YtgbhimkbfaebeaaGreatDoorAbsM
import Derived.Test.YtgbhimkbfaebeaaGreatDoorAbsRw
import Derived.Test.YtgbhimkbfaebeaaGreatDoorAbsBs
import Derived.Test.YtgbhimkbfaebeaaGreatDoorXA
import Derived.Test.YtgbhimkbfaebeaaGreatDoorProg
namespace Go.Abs
set_option linter.unusedVariables false
set_option linter.unusedSimpArgs false
set_option linter.unnecessarySimpa false
set_option maxRecDepth 100000
theorem Ops.hv {X : Cx} {ops : List Oper} {i : Nat} {σ : St} {Q : St → Prop} (P : (Nat → St → Prop) → Prop) (h1 : P fun j τ => Ops X ops j τ Q) (h2 : (P fun j τ => Ops X ops j τ Q) → Ops X ops i σ Q) : Ops X ops i σ Q := h2 h1
def ti2 : TI := ⟨.int .i64, 1, 8, .int .i64 (0), true⟩
def ti3 : TI := ⟨.int .i64, 1, 8, .int .i64 (0), true⟩
def ti4 : TI := ⟨.bool, 1, 1, .bool false, true⟩
def ti5 : TI := ⟨.int .u8, 1, 1, .int .u8 (0), true⟩
def ti9 : TI := ⟨.str, 1, 16, .str ByteArray.empty, true⟩
def ti21 : TI := ⟨.int .i32, 1, 4, .int .i32 (0), true⟩
def ti22 : TI := ⟨.slice 45, 1, 24, .sl .nil [], true⟩
def ti24 : TI := ⟨.struct [(0, 22)], 1, 24, .agg [.sl .nil []], true⟩
def ti27 : TI := ⟨.struct [(0, 3), (1, 3)], 2, 16, .agg [.int .i64 (0), .int .i64 (0)], true⟩
def ti29 : TI := ⟨.slice 9, 1, 24, .sl .nil [], true⟩
def ti43 : TI := ⟨.slice 47, 1, 24, .sl .nil [], true⟩
def ti45 : TI := ⟨.struct [(0, 9), (1, 43)], 2, 40, .agg [.str ByteArray.empty, .sl .nil []], true⟩
def ti47 : TI := ⟨.struct [(0, 9), (1, 9), (2, 29), (3, 3), (4, 3)], 5, 72, .agg [.str ByteArray.empty, .str ByteArray.empty, .sl .nil [], .int .i64 (0), .int .i64 (0)], true⟩
def ti49 : TI := ⟨.slice 5, 1, 24, .sl .nil [], true⟩
def ti65 : TI := ⟨.struct [(0, 63), (1, 49)], 2, 32, .agg [.nilptr, .sl .nil []], true⟩
def ti77 : TI := ⟨.slice 3, 1, 24, .sl .nil [], true⟩
def T (t : Nat) : Option TI := match t with
 | 2 => some ti2
 | 3 => some ti3
 | 4 => some ti4
 | 5 => some ti5
 | 9 => some ti9
 | 21 => some ti21
 | 22 => some ti22
 | 24 => some ti24
 | 27 => some ti27
 | 29 => some ti29
 | 43 => some ti43
 | 45 => some ti45
 | 47 => some ti47
 | 49 => some ti49
 | 65 => some ti65
 | 77 => some ti77
 | _ => none
theorem T_ok : ∀ t i, T t = some i → tiOf Proofs.Tryz.prog t = some i := by
 intro t i h
 unfold T at h
 split at h <;> first | (cases h; kernel_rfl) | (cases h; done)
def loopT (f k : Nat) : List Nat := match f, k with
 | 11, 4 => [1, 2, 18, 19]
 | 27, 5 => [2, 4, 5, 24, 25, 26]
 | 27, 13 => [2, 4, 41, 42, 43]
 | 27, 20 => [2, 4, 9, 41, 42, 43, 72, 73, 74]
 | 40, 4 => [0, 2, 15, 16]
 | 41, 5 => [2, 25, 26, 27]
 | 53, 5 => [0, 2, 3, 4, 5]
 | 12, 4 => [0, 1, 4, 12, 13]
 | 7, 5 => [1, 2, 3, 21, 22, 23]
 | 7, 10 => [1, 2, 3, 4, 5, 6, 21, 22, 23]
 | 7, 17 => [1, 2, 3, 4, 21, 22, 23, 57, 58, 59]
 | 19, 4 => [0, 2, 3]
 | 33, 5 => [2, 27, 28, 29]
 | 33, 8 => [2, 6, 27, 28, 29, 33, 34, 35]
 | 47, 5 => [0, 2, 3, 4, 5]
 | 63, 18 => [0, 1, 4, 6, 7, 8]
 | 21, 4 => [4, 11, 12, 13]
 | 32, 18 => [0, 2, 3, 4, 6, 7, 8, 9]
 | 31, 2 => [0, 2, 6, 7]
 | 46, 8 => [0, 2, 3, 4, 5, 6]
 | 9, 6 => [2, 3, 5, 17, 18, 19]
 | 9, 10 => [2, 3, 5, 17, 18, 19, 30, 31, 32]
 | 23, 12 => [0, 1, 4, 5, 39, 40, 41]
 | 23, 22 => [1, 4, 8, 63, 64, 65]
 | 22, 3 => [2, 3, 9, 10, 11]
 | 22, 6 => [2, 3, 9, 10, 11, 16, 17, 18]
 | 10, 6 => [2, 3, 5, 19, 20, 21]
 | 10, 10 => [2, 3, 5, 19, 20, 21, 32, 33, 34]
 | 10, 14 => [2, 3, 5, 9, 19, 20, 21, 32, 33, 34, 49, 50, 51]
 | 13, 3 => [2, 3, 12, 13, 14]
 | 13, 6 => [2, 3, 12, 13, 14, 19, 20, 21]
 | 13, 9 => [2, 3, 12, 13, 14, 19, 20, 21, 26, 27, 28]
 | 13, 12 => [2, 3, 9, 10, 12, 13, 14, 19, 20, 21, 26, 27, 28]
 | 14, 6 => [2, 3, 4, 5, 22, 23, 24]
 | 16, 4 => [2, 3, 4, 20, 21]
 | 16, 10 => [2, 3, 4, 6, 7, 20, 21, 50, 51]
 | 15, 6 => [0, 2, 3, 4, 5, 6]
 | _, _ => []
def condT (f k : Nat) : List Nat := match f, k with
 | 11, 14 => [1, 2]
 | 11, 20 => [1, 2, 18, 19]
 | 11, 26 => [1, 2, 18, 19]
 | 27, 20 => [1, 2, 4, 5]
 | 27, 27 => [2, 4, 5, 24, 25, 26]
 | 27, 34 => [2, 4, 5, 24, 25, 26]
 | 27, 39 => [2, 4, 5]
 | 27, 44 => [2, 4, 41, 42, 43]
 | 27, 66 => [2, 4, 9, 41, 42, 43]
 | 27, 70 => [2, 4, 9, 41, 42, 43]
 | 27, 75 => [2, 4, 9, 41, 42, 43, 72, 73, 74]
 | 27, 80 => [2, 4, 9, 41, 42, 43, 72, 73, 74]
 | 27, 102 => [2, 4, 41, 42, 43]
 | 40, 13 => [0, 2]
 | 40, 17 => [0, 2, 15, 16]
 | 40, 49 => [0, 2, 15, 16]
 | 41, 24 => [2, 3]
 | 41, 28 => [2, 25, 26, 27]
 | 41, 46 => [2, 25, 26, 27]
 | 53, 10 => [0, 2, 3]
 | 53, 15 => [0, 2, 3, 4, 5]
 | 53, 28 => [0, 2, 3, 4, 5, 6, 7]
 | 83, 10 => [2, 3]
 | 30, 16 => [0, 2, 3, 4]
 | 30, 26 => [0, 2, 3, 4]
 | 30, 36 => [0, 2, 3, 4]
 | 30, 45 => [0, 2, 3, 4, 6]
 | 30, 48 => [0, 2, 3, 4]
 | 30, 59 => [2, 3, 4, 7, 8]
 | 12, 10 => [0, 1, 4]
 | 12, 14 => [0, 1, 4, 12, 13]
 | 12, 24 => [0, 1, 4, 12, 13]
 | 7, 18 => [1, 2, 3]
 | 7, 24 => [1, 2, 3, 21, 22, 23]
 | 7, 31 => [1, 2, 3, 4, 5, 21, 22, 23]
 | 7, 36 => [1, 2, 3, 4, 5, 6, 21, 22, 23]
 | 7, 47 => [1, 2, 3, 4, 5, 6, 21, 22, 23]
 | 7, 53 => [1, 2, 3, 4, 5, 21, 22, 23]
 | 7, 60 => [1, 2, 3, 4, 21, 22, 23, 57, 58, 59]
 | 7, 72 => [1, 2, 3, 4, 8, 21, 22, 23, 57, 58, 59]
 | 7, 79 => [1, 2, 3, 4, 8, 21, 22, 23, 57, 58, 59]
 | 7, 101 => [1, 2, 3, 4, 21, 22, 23, 57, 58, 59]
 | 19, 22 => [0, 2]
 | 19, 26 => [0, 2, 3]
 | 19, 54 => [0, 2, 3]
 | 33, 26 => [2, 3]
 | 33, 30 => [2, 27, 28, 29]
 | 33, 36 => [2, 6, 27, 28, 29, 33, 34, 35]
 | 33, 41 => [2, 6, 27, 28, 29, 33, 34, 35]
 | 33, 44 => [2, 27, 28, 29]
 | 47, 9 => [0, 2, 3]
 | 47, 14 => [0, 2, 3, 4, 5]
 | 47, 19 => [0, 2, 3, 4, 5, 6]
 | 63, 16 => [0, 1, 4, 6, 7]
 | 63, 20 => [0, 1, 4, 6, 7]
 | 63, 24 => [0, 1, 4, 6, 7]
 | 63, 28 => [0, 1, 4, 6, 7]
 | 63, 34 => [0, 1, 4, 6, 7]
 | 63, 37 => [0, 1, 4, 6, 7, 8]
 | 63, 51 => [0, 1, 4, 6, 7, 8, 9]
 | 63, 65 => [4, 7]
 | 64, 4 => [0, 2]
 | 64, 6 => [0, 2]
 | 64, 8 => [2]
 | 21, 10 => [0, 4]
 | 21, 14 => [4, 11, 12, 13]
 | 21, 19 => [4, 11, 12, 13]
 | 32, 20 => [0, 2, 3, 4]
 | 32, 25 => [0, 2, 3, 4, 5]
 | 32, 32 => [0, 2, 3, 4, 5, 6]
 | 32, 39 => [0, 2, 3, 4, 5, 6, 7]
 | 32, 46 => [0, 2, 3, 4, 5, 6, 7, 8]
 | 32, 68 => [0, 2, 3, 4, 6, 7, 8, 9]
 | 32, 75 => [0, 2, 3, 4, 6, 7, 8, 9, 10]
 | 31, 15 => [0, 2, 6, 7]
 | 31, 26 => [0, 2, 6, 7]
 | 46, 15 => [0, 2, 3, 4, 5]
 | 46, 30 => [0, 2, 3, 4, 5]
 | 46, 34 => [0, 2, 3, 4, 5, 6]
 | 46, 46 => [0, 2, 3, 4, 5, 6]
 | 46, 48 => [0, 2, 3, 4, 5, 6]
 | 46, 77 => [0, 2, 3, 4, 5]
 | 46, 80 => [2, 3, 4]
 | 3, 11 => [1, 2]
 | 3, 47 => [1, 2, 3, 4]
 | 3, 50 => [1, 2, 4]
 | 9, 14 => [1, 2, 3]
 | 9, 20 => [2, 3, 5, 17, 18, 19]
 | 9, 33 => [2, 3, 5, 17, 18, 19, 30, 31, 32]
 | 9, 69 => [2, 3, 5]
 | 23, 13 => [0, 1, 4]
 | 23, 15 => [0, 1, 4]
 | 23, 22 => [0, 1, 4, 5]
 | 23, 29 => [0, 1, 4, 5]
 | 23, 42 => [0, 1, 4, 5, 39, 40, 41]
 | 23, 49 => [0, 1, 4, 5, 7, 39, 40, 41]
 | 23, 66 => [1, 4, 8, 63, 64, 65]
 | 8, 9 => [1, 2, 3]
 | 22, 12 => [2, 3, 9, 10, 11]
 | 22, 19 => [2, 3, 9, 10, 11, 16, 17, 18]
 | 10, 16 => [1, 2, 3]
 | 10, 22 => [2, 3, 5, 19, 20, 21]
 | 10, 35 => [2, 3, 5, 19, 20, 21, 32, 33, 34]
 | 10, 52 => [2, 3, 5, 9, 19, 20, 21, 32, 33, 34, 49, 50, 51]
 | 10, 57 => [2, 3, 5, 9, 11, 19, 20, 21, 32, 33, 34, 49, 50, 51]
 | 10, 78 => [2, 3, 5, 19, 20, 21, 32, 33, 34]
 | 10, 84 => [2, 3, 5]
 | 26, 4 => [0, 2]
 | 26, 10 => [0, 2]
 | 13, 15 => [2, 3, 12, 13, 14]
 | 13, 22 => [2, 3, 12, 13, 14, 19, 20, 21]
 | 13, 29 => [2, 3, 12, 13, 14, 19, 20, 21, 26, 27, 28]
 | 13, 43 => [2, 3, 9, 10, 12, 13, 14, 19, 20, 21, 26, 27, 28]
 | 13, 57 => [2, 3, 12, 13, 14, 19, 20, 21, 26, 27, 28]
 | 4, 8 => [0, 2]
 | 5, 8 => [1, 2]
 | 5, 16 => [1, 2, 3]
 | 14, 17 => [0, 2, 3]
 | 14, 25 => [2, 3, 4, 5, 22, 23, 24]
 | 14, 33 => [2, 3, 4, 5, 6, 7, 22, 23, 24]
 | 14, 35 => [2, 3, 5]
 | 14, 44 => [2, 3, 4, 5, 6, 7, 22, 23, 24]
 | 14, 64 => [2, 3, 4, 5, 6, 10, 22, 23, 24]
 | 14, 74 => [2, 3, 4, 5, 12, 22, 23, 24]
 | 14, 100 => [2, 3, 5]
 | 16, 17 => [2, 3, 4]
 | 16, 22 => [2, 3, 4, 20, 21]
 | 16, 47 => [2, 3, 4, 6, 7, 20, 21]
 | 16, 52 => [2, 3, 4, 6, 7, 20, 21, 50, 51]
 | 16, 97 => [2, 3, 4, 6, 7, 20, 21, 50, 51]
 | 15, 15 => [0, 2, 3]
 | 15, 21 => [0, 2, 3, 4, 5, 6]
 | 15, 28 => [0, 2, 3, 4, 5, 6, 7]
 | 15, 45 => [0, 2, 3, 4, 5, 6, 8]
 | 15, 66 => [0, 2, 3, 4, 5, 6, 9]
 | 15, 92 => [2, 3, 4]
 | _, _ => []
def blkT (f k : Nat) : List Nat := match f, k with
 | 11, 0 => [2]
 | 11, 1 => [1, 2, 18, 19]
 | 27, 0 => [2, 4, 5]
 | 27, 1 => [2, 4, 5, 24, 25, 26]
 | 27, 2 => [4]
 | 27, 3 => [2, 4, 41, 42, 43]
 | 27, 4 => [2, 4, 9, 41, 42, 43]
 | 27, 5 => [2, 4, 9, 41, 42, 43, 72, 73, 74]
 | 40, 0 => [2]
 | 40, 1 => [0, 2, 15, 16]
 | 41, 0 => [2]
 | 41, 1 => [2, 25, 26, 27]
 | 53, 0 => [2, 3, 4]
 | 53, 1 => [0, 2, 3, 4, 5]
 | 12, 0 => [4]
 | 12, 1 => [0, 1, 4, 12, 13]
 | 7, 0 => [2]
 | 7, 1 => [1, 2, 3, 21, 22, 23]
 | 7, 2 => [1, 2, 3, 4, 5, 21, 22, 23]
 | 7, 3 => [1, 2, 3, 4, 5, 6, 21, 22, 23]
 | 7, 4 => [1, 2, 3, 21, 22, 23]
 | 7, 5 => [1, 2, 3, 4, 21, 22, 23, 57, 58, 59]
 | 19, 0 => [2]
 | 19, 1 => [0, 2, 3]
 | 33, 0 => [2]
 | 33, 1 => [2, 27, 28, 29]
 | 33, 2 => [2, 6, 27, 28, 29]
 | 33, 3 => [2, 6, 27, 28, 29, 33, 34, 35]
 | 47, 0 => [2, 3, 4]
 | 47, 1 => [0, 2, 3, 4, 5]
 | 63, 0 => [4, 6, 7]
 | 63, 1 => [0, 1, 4, 6, 7, 8]
 | 21, 0 => [4]
 | 21, 1 => [4, 11, 12, 13]
 | 32, 0 => [0, 2, 3, 4, 7, 8]
 | 32, 1 => [0, 2, 3, 4, 6, 7, 8, 9]
 | 31, 0 => [6]
 | 31, 1 => [0, 2, 6, 7]
 | 46, 0 => [0, 2, 3, 4, 5]
 | 46, 1 => [0, 2, 3, 4, 5, 6]
 | 9, 0 => [2, 3, 5]
 | 9, 1 => [2, 3, 5, 17, 18, 19]
 | 9, 2 => [2, 3, 5, 17, 18, 19]
 | 9, 3 => [2, 3, 5, 17, 18, 19, 30, 31, 32]
 | 23, 0 => [0, 1, 4]
 | 23, 1 => [0, 1, 4, 5]
 | 23, 2 => [0, 1, 4, 5, 39, 40, 41]
 | 23, 3 => [4, 8]
 | 23, 4 => [1, 4, 8, 63, 64, 65]
 | 22, 0 => [2, 3]
 | 22, 1 => [2, 3, 9, 10, 11]
 | 22, 2 => [2, 3, 9, 10, 11]
 | 22, 3 => [2, 3, 9, 10, 11, 16, 17, 18]
 | 10, 0 => [2, 3, 5]
 | 10, 1 => [2, 3, 5, 19, 20, 21]
 | 10, 2 => [2, 3, 5, 19, 20, 21]
 | 10, 3 => [2, 3, 5, 19, 20, 21, 32, 33, 34]
 | 10, 4 => [2, 3, 5, 9, 19, 20, 21, 32, 33, 34]
 | 10, 5 => [2, 3, 5, 9, 19, 20, 21, 32, 33, 34, 49, 50, 51]
 | 13, 0 => [2, 3]
 | 13, 1 => [2, 3, 12, 13, 14]
 | 13, 2 => [2, 3, 12, 13, 14]
 | 13, 3 => [2, 3, 12, 13, 14, 19, 20, 21]
 | 13, 4 => [2, 3, 12, 13, 14, 19, 20, 21]
 | 13, 5 => [2, 3, 12, 13, 14, 19, 20, 21, 26, 27, 28]
 | 13, 6 => [2, 3, 9, 10, 12, 13, 14, 19, 20, 21, 26, 27, 28]
 | 13, 7 => [2, 3, 9, 10, 12, 13, 14, 19, 20, 21, 26, 27, 28]
 | 14, 0 => [2, 3, 5]
 | 14, 1 => [2, 3, 4, 5, 22, 23, 24]
 | 16, 0 => [4]
 | 16, 1 => [2, 3, 4, 20, 21]
 | 16, 2 => [2, 3, 4, 20, 21]
 | 16, 3 => [2, 3, 4, 6, 7, 20, 21, 50, 51]
 | 15, 0 => [2, 3, 4]
 | 15, 1 => [0, 2, 3, 4, 5, 6]
 | _, _ => []
def accT (f : Nat) : List Nat := match f with
 | 9 => [5]
 | 13 => [3]
 | 22 => [3]
 | 32 => [100402]
 | 47 => [4]
 | 53 => [4]
 | _ => []
def ownT : List Nat := [72, 48, 69, 34, 70, 95, 67, 68, 96, 113, 35, 92, 65, 94, 73, 66]
def rowT : List Nat := [72, 48, 69, 34, 70, 95, 67, 68, 96, 113, 35, 22, 92, 65, 94, 73, 66]
def E0 : Env := { T := T, pureF := fun f => !ownT.contains f, keep := fun f => ⟨loopT f, condT f, blkT f⟩, acc := accT, rowF := fun f => rowT.contains f, rowM := false, ora := fun _ => none, oraD := fun _ => none }
theorem names_ok : ∀ (f : Nat) fn, Proofs.Tryz.prog.funcs[f]? = some fn → (fn.name == "runtime.NumGoroutine") = false := by
 intro f fn h
 have hall : (Proofs.Tryz.prog.funcs.toList.all fun fn => !(fn.name == "runtime.NumGoroutine")) = true := by kernel_rfl
 have := List.all_eq_true.1 hall fn (List.mem_of_getElem? (by simpa using h))
 simpa using this
theorem good0 {DR : Prop} : Good DR Proofs.Tryz.prog E0 := ⟨by kernel_rfl, T_ok, names_ok, (fun f F h => by cases h), (fun f F h => by cases h)⟩
def oraT1 (f : Nat) : Option (List V → Option V) := match f with
 | 83 => some decodeF
 | 54 => some ixbyteF
 | 29 => some cutpF
 | 44 => some cutF3
 | 28 => some splitF
 | 45 => some numF
 | 23 => some joinF
 | _ => none
def E1 : Env := { E0 with ora := oraT1 }
def oraT (f : Nat) : Option (List V → Option V) := match f with
 | f => oraT1 f
def oraDT (f : Nat) : Option (List D → List AObj → Option (D × List AObj)) := match f with
 | 34 => some sortF
 | 35 => some compactF
 | _ => none
def E : Env := { E0 with ora := oraT, oraD := oraDT }
theorem isd34 : Is Proofs.Tryz.prog 34 := ⟨Proofs.Tryz.f34, Proofs.Tryz.func34, by kernel_rfl, by kernel_rfl⟩
theorem orad34 : DOk False Proofs.Tryz.prog 34 sortF := sort_sound isd34 (fun blk off cap ss w h1 h2 h3 => Proofs.Tryz.slices_Sort_string blk off cap ss w h1 h2 h3) (fun p cap w => Proofs.Tryz.slices_Sort_string_none p cap w)
theorem isd35 : Is Proofs.Tryz.prog 35 := ⟨Proofs.Tryz.f35, Proofs.Tryz.func35, by kernel_rfl, by kernel_rfl⟩
theorem orad35 : DOk False Proofs.Tryz.prog 35 compactF := compact_sound isd35 (fun blk off cap zs w h1 h2 h3 => Proofs.Tryz.slices_Compact_string blk off cap zs w h1 h2 h3) (fun a cap w => Proofs.Tryz.slices_Compact_string_empty a cap w)
theorem oraD_ok : DSound False Proofs.Tryz.prog E := by
 intro f F h
 have h : oraDT f = some F := h
 unfold oraDT at h
 split at h <;> first | (cases h; done) | skip
 ·cases h; exact orad34
 ·cases h; exact orad35
theorem tabs_of_glob {S : Nat → Nat → Prop} {w : World} (h : Glob S w) : Lib.Utf8Tabs 2 3 w := by
 refine ⟨fun c hc => ?_, fun i hi => ?_⟩
 ·obtain ⟨_, v, h2, h3⟩ := h.1 2 firstTab rfl c (.int .u8 (Lib.firstT c)) (by simp [firstTab, hc])
  cases h3
  exact h2
 ·obtain ⟨_, v, h2, h3⟩ := h.1 3 acceptTab rfl (2 * i) (.int .u8 (Lib.accLo i)) (by simp [acceptTab, show 2 * i < 32 by omega, show 2 * i / 2 = i by omega])
  cases h3
  obtain ⟨_, v, g2, g3⟩ := h.1 3 acceptTab rfl (2 * i + 1) (.int .u8 (Lib.accHi i)) (by simp [acceptTab, show 2 * i + 1 < 32 by omega, show (2 * i + 1) / 2 = i by omega])
  cases g3
  exact ⟨h2, g2⟩
theorem is83 : Is Proofs.Tryz.prog 83 := ⟨Proofs.Tryz.f83, Proofs.Tryz.func83, by kernel_rfl, by kernel_rfl⟩
theorem ora83 : OraOk False Proofs.Tryz.prog 83 decodeF := decode_sound (fun h => h) is83 fun S w hg => ⟨2, 3, tabs_of_glob hg, fun s => Proofs.Tryz.utf8_DecodeRuneInString s w (tabs_of_glob hg)⟩
theorem is54 : Is Proofs.Tryz.prog 54 := ⟨Proofs.Tryz.f54, Proofs.Tryz.func54, by kernel_rfl, by kernel_rfl⟩
theorem ora54 : OraOk False Proofs.Tryz.prog 54 ixbyteF := ixbyte_sound is54 fun s c w => Proofs.Tryz.strings_IndexByte s c w
theorem ora29 : OraOk False Proofs.Tryz.prog 29 cutpF := xo29
theorem ora44 : OraOk False Proofs.Tryz.prog 44 cutF3 := xo44
theorem ora28 : OraOk False Proofs.Tryz.prog 28 splitF := xo28
theorem ora45 : OraOk False Proofs.Tryz.prog 45 numF := xo45
theorem ora23 : OraOk False Proofs.Tryz.prog 23 joinF := xo23
theorem ora1_ok : OSound False Proofs.Tryz.prog E1 := by
 intro f F h
 have h : oraT1 f = some F := h
 unfold oraT1 at h
 split at h <;> first | (cases h; done) | skip
 ·cases h; exact ora83
 ·cases h; exact ora54
 ·cases h; exact ora29
 ·cases h; exact ora44
 ·cases h; exact ora28
 ·cases h; exact ora45
 ·cases h; exact ora23
theorem ora_ok : OSound False Proofs.Tryz.prog E := by
 intro f F h
 have h : oraT f = some F := h
 unfold oraT at h
 exact ora1_ok f F h
theorem good : Good False Proofs.Tryz.prog E := ⟨(good0 (DR := False)).mixed, T_ok, names_ok, ora_ok, oraD_ok⟩
structure S46 where
 fBase : ByteArray
 fForm : ByteArray
 fTags : (List ByteArray)
 fNext : Int
 fWeight : Int
def e46 : S46 → V := fun x => (.agg [(.str x.fBase), (.str x.fForm), (vP eS x.fTags), (vI x.fNext), (vI x.fWeight)])
structure S44 where
 fName : ByteArray
 fItems : (List S46)
def e44 : S44 → V := fun x => (.agg [(.str x.fName), (vP e46 x.fItems)])
structure S23 where
 fClasses : (List S44)
def e23 : S23 → V := fun x => (.agg [(vP e44 x.fClasses)])
structure S26 where
 fCode : Int
 fIndex : Int
def e26 : S26 → V := fun x => (.agg [(vI x.fCode), (vI x.fIndex)])
end Go.Abs
