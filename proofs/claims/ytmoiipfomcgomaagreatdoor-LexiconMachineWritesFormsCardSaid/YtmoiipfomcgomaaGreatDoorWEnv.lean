import Derived.Test.YtmoiipfomcgomaaGreatDoorAbsW
import Derived.Test.YtmoiipfomcgomaaGreatDoorAbsL
import Derived.Test.YtmoiipfomcgomaaGreatDoorAbsN
import Derived.Test.YtmoiipfomcgomaaGreatDoorAbsU
import Derived.Test.YtmoiipfomcgomaaGreatDoorShelf
import Derived.Test.YtmoiipfomcgomaaGreatDoorAbsM
import Derived.Test.YtmoiipfomcgomaaGreatDoorAbsRw
import Derived.Test.YtmoiipfomcgomaaGreatDoorAbsKp
import Derived.Test.YtmoiipfomcgomaaGreatDoorGL
import Derived.Test.YtmoiipfomcgomaaGreatDoorProg
namespace Go.Abs
set_option linter.unusedVariables false
set_option maxRecDepth 100000
theorem Ops.hv {X : Cx} {ops : List Oper} {i : Nat} {σ : St} {Q : St → Prop} (P : (Nat → St → Prop) → Prop) (h1 : P fun j τ => Ops X ops j τ Q) (h2 : (P fun j τ => Ops X ops j τ Q) → Ops X ops i σ Q) : Ops X ops i σ Q := h2 h1
def ti3 : TI := ⟨.int .i64, 1, 8, .int .i64 (0), true⟩
def ti4 : TI := ⟨.bool, 1, 1, .bool false, true⟩
def ti5 : TI := ⟨.int .u8, 1, 1, .int .u8 (0), true⟩
def ti9 : TI := ⟨.str, 1, 16, .str ByteArray.empty, true⟩
def ti21 : TI := ⟨.int .i32, 1, 4, .int .i32 (0), true⟩
def ti22 : TI := ⟨.slice 56, 1, 24, .sl .nil [], true⟩
def ti24 : TI := ⟨.struct [(0, 22)], 1, 24, .agg [.sl .nil []], true⟩
def ti25 : TI := ⟨.slice 3, 1, 24, .sl .nil [], true⟩
def ti27 : TI := ⟨.slice 62, 1, 24, .sl .nil [], true⟩
def ti28 : TI := ⟨.slice 53, 1, 24, .sl .nil [], true⟩
def ti30 : TI := ⟨.struct [(0, 3), (1, 27), (2, 28)], 3, 56, .agg [.int .i64 (0), .sl .nil [], .sl .nil []], true⟩
def ti32 : TI := ⟨.struct [(0, 3), (1, 3)], 2, 16, .agg [.int .i64 (0), .int .i64 (0)], true⟩
def ti36 : TI := ⟨.slice 41, 1, 24, .sl .nil [], true⟩
def ti39 : TI := ⟨.slice 9, 1, 24, .sl .nil [], true⟩
def ti41 : TI := ⟨.struct [(0, 9), (1, 9), (2, 39), (3, 3)], 4, 64, .agg [.str ByteArray.empty, .str ByteArray.empty, .sl .nil [], .int .i64 (0)], true⟩
def ti53 : TI := ⟨.struct [(0, 3), (1, 3)], 2, 16, .agg [.int .i64 (0), .int .i64 (0)], true⟩
def ti54 : TI := ⟨.slice 58, 1, 24, .sl .nil [], true⟩
def ti56 : TI := ⟨.struct [(0, 9), (1, 54)], 2, 40, .agg [.str ByteArray.empty, .sl .nil []], true⟩
def ti58 : TI := ⟨.struct [(0, 9), (1, 9), (2, 39), (3, 3), (4, 3)], 5, 72, .agg [.str ByteArray.empty, .str ByteArray.empty, .sl .nil [], .int .i64 (0), .int .i64 (0)], true⟩
def ti62 : TI := ⟨.struct [(0, 3), (1, 3), (2, 3), (3, 3), (4, 3)], 5, 40, .agg [.int .i64 (0), .int .i64 (0), .int .i64 (0), .int .i64 (0), .int .i64 (0)], true⟩
def ti71 : TI := ⟨.struct [(0, 24), (1, 36), (2, 3)], 3, 56, .agg [.sl .nil [], .sl .nil [], .int .i64 (0)], true⟩
def ti79 : TI := ⟨.slice 4, 1, 24, .sl .nil [], true⟩
def ti87 : TI := ⟨.int .u64, 1, 8, .int .u64 (0), true⟩
def ti116 : TI := ⟨.slice 39, 1, 24, .sl .nil [], true⟩
def T (t : Nat) : Option TI := match t with
 | 3 => some ti3
 | 4 => some ti4
 | 5 => some ti5
 | 9 => some ti9
 | 21 => some ti21
 | 22 => some ti22
 | 24 => some ti24
 | 25 => some ti25
 | 27 => some ti27
 | 28 => some ti28
 | 30 => some ti30
 | 32 => some ti32
 | 36 => some ti36
 | 39 => some ti39
 | 41 => some ti41
 | 53 => some ti53
 | 54 => some ti54
 | 56 => some ti56
 | 58 => some ti58
 | 62 => some ti62
 | 71 => some ti71
 | 79 => some ti79
 | 87 => some ti87
 | 116 => some ti116
 | _ => none
theorem T_ok : ∀ t i, T t = some i → tiOf Proofs.Tryz.prog t = some i := by
 intro t i h
 unfold T at h
 split at h <;> first | (cases h; kernel_rfl) | (cases h; done)
def loopT (f k : Nat) : List Nat := match f, k with
 | 43, 3 => [2, 3, 6, 7, 8]
 | 51, 2 => [0, 1, 4, 9, 10, 11]
 | 14, 4 => [1, 2, 18, 19]
 | 34, 5 => [2, 4, 5, 24, 25, 26]
 | 34, 13 => [2, 4, 41, 42, 43]
 | 34, 20 => [2, 4, 9, 41, 42, 43, 72, 73, 74]
 | 53, 4 => [0, 2, 15, 16]
 | 54, 5 => [2, 25, 26, 27]
 | 16, 5 => [0, 2, 3, 4, 5]
 | 48, 3 => [0, 2, 3, 9, 10, 11]
 | 48, 11 => [2, 6, 25, 26, 27]
 | 45, 6 => [1, 2, 18, 19, 20]
 | 45, 14 => [1, 2, 78, 79, 80]
 | 3, 12 => [1, 2, 4, 7, 11, 47, 48, 49]
 | 13, 4 => [0, 1, 4, 12, 13]
 | 33, 4 => [0, 1, 4, 12, 13]
 | 5, 8 => [2, 3, 5, 6, 7, 45, 46, 47]
 | 5, 11 => [2, 3, 5, 6, 7, 8, 45, 46, 47, 53, 54, 55]
 | 5, 15 => [2, 3, 5, 6, 7, 8, 11, 12, 45, 46, 47, 53, 54, 55, 66, 67, 68]
 | 5, 27 => [2, 3, 5, 6, 7, 8, 12, 18, 20, 21, 22, 23, 45, 46, 47, 53, 54, 55, 104, 105]
 | 15, 3 => [2, 3, 9, 10, 11]
 | 15, 6 => [2, 3, 9, 10, 11, 16, 17, 18]
 | 17, 3 => [0, 1, 4, 5, 6, 7, 8]
 | 8, 5 => [0, 2, 3, 4, 5]
 | 30, 18 => [0, 1, 4, 6, 7, 8]
 | 10, 4 => [0, 1, 4, 12, 13]
 | 9, 6 => [2, 4, 5, 24, 25, 26]
 | 9, 12 => [2, 4, 5, 7, 8, 24, 25, 26, 36, 37, 38]
 | 9, 20 => [4, 5, 63, 64, 65]
 | 11, 4 => [2, 3, 4, 21, 22, 23]
 | 11, 7 => [2, 3, 4, 5, 21, 22, 23, 29, 30, 31]
 | 11, 14 => [2, 3, 4, 48, 49]
 | 11, 17 => [2, 3, 4, 9, 48, 49, 52, 53]
 | 11, 20 => [2, 3, 4, 9, 10, 48, 49, 52, 53, 56, 57]
 | 11, 28 => [2, 3, 4, 88, 89]
 | _, _ => []
def condT (f k : Nat) : List Nat := match f, k with
 | 44, 11 => [0, 1, 4, 6]
 | 44, 12 => [4]
 | 44, 13 => [0, 1, 4]
 | 44, 16 => [0, 1, 4]
 | 44, 19 => [4]
 | 43, 9 => [2, 3, 6, 7, 8]
 | 43, 14 => [2, 3, 6, 7, 8]
 | 50, 11 => [0, 1, 4, 6]
 | 50, 12 => [4]
 | 50, 13 => [0, 1, 4]
 | 50, 16 => [0, 1, 4]
 | 50, 19 => [4]
 | 51, 12 => [0, 1, 4, 9, 10, 11]
 | 51, 19 => [0, 1, 4, 5, 6, 9, 10, 11]
 | 51, 28 => [0, 1, 4, 9, 10, 11]
 | 51, 35 => [4]
 | 14, 14 => [1, 2]
 | 14, 20 => [1, 2, 18, 19]
 | 14, 26 => [1, 2, 18, 19]
 | 34, 20 => [1, 2, 4, 5]
 | 34, 27 => [2, 4, 5, 24, 25, 26]
 | 34, 34 => [2, 4, 5, 24, 25, 26]
 | 34, 39 => [2, 4, 5]
 | 34, 44 => [2, 4, 41, 42, 43]
 | 34, 66 => [2, 4, 9, 41, 42, 43]
 | 34, 70 => [2, 4, 9, 41, 42, 43]
 | 34, 75 => [2, 4, 9, 41, 42, 43, 72, 73, 74]
 | 34, 80 => [2, 4, 9, 41, 42, 43, 72, 73, 74]
 | 34, 102 => [2, 4, 41, 42, 43]
 | 53, 13 => [0, 2]
 | 53, 17 => [0, 2, 15, 16]
 | 53, 49 => [0, 2, 15, 16]
 | 54, 24 => [2, 3]
 | 54, 28 => [2, 25, 26, 27]
 | 54, 46 => [2, 25, 26, 27]
 | 16, 10 => [0, 2, 3]
 | 16, 15 => [0, 2, 3, 4, 5]
 | 16, 28 => [0, 2, 3, 4, 5, 6, 7]
 | 38, 10 => [2, 3]
 | 48, 12 => [0, 2, 3, 9, 10, 11]
 | 48, 20 => [0, 2, 3, 9, 10, 11]
 | 48, 28 => [2, 6, 25, 26, 27]
 | 45, 10 => [1, 2]
 | 45, 15 => [1, 2]
 | 45, 21 => [1, 2, 18, 19, 20]
 | 45, 58 => [1, 2, 3, 4, 18, 19, 20]
 | 45, 73 => [1, 2, 18, 19, 20]
 | 45, 81 => [1, 2, 78, 79, 80]
 | 45, 97 => [1, 2, 5, 6, 78, 79, 80]
 | 45, 117 => [1, 2, 78, 79, 80]
 | 46, 4 => [0, 2]
 | 71, 4 => [0, 2]
 | 3, 17 => [1, 2, 4]
 | 3, 25 => [1, 2, 4, 5]
 | 3, 43 => [1, 2, 4, 7, 9]
 | 3, 50 => [1, 2, 4, 7, 11, 47, 48, 49]
 | 3, 72 => [1, 2, 4, 7, 11, 14, 47, 48, 49]
 | 3, 87 => [1, 4, 7, 11]
 | 13, 10 => [0, 1, 4]
 | 13, 14 => [0, 1, 4, 12, 13]
 | 13, 66 => [0, 1, 4, 12, 13]
 | 33, 10 => [0, 1, 4]
 | 33, 14 => [0, 1, 4, 12, 13]
 | 33, 24 => [0, 1, 4, 12, 13]
 | 5, 30 => [1, 2, 3]
 | 5, 48 => [2, 3, 5, 6, 7, 45, 46, 47]
 | 5, 56 => [2, 3, 5, 6, 7, 8, 45, 46, 47, 53, 54, 55]
 | 5, 69 => [2, 3, 5, 6, 7, 8, 11, 12, 45, 46, 47, 53, 54, 55, 66, 67, 68]
 | 5, 93 => [2, 3, 5, 6, 7, 8, 11, 12, 18, 20, 45, 46, 47, 53, 54, 55]
 | 5, 106 => [2, 3, 5, 6, 7, 8, 12, 18, 20, 21, 22, 23, 45, 46, 47, 53, 54, 55, 104, 105]
 | 5, 115 => [2, 3, 5, 6, 7, 8, 12, 18, 20, 21, 24, 25, 45, 46, 47, 53, 54, 55, 104, 105]
 | 5, 124 => [2, 3, 5, 6, 7, 8, 12, 18, 20, 21, 24, 25, 45, 46, 47, 53, 54, 55, 104, 105]
 | 5, 133 => [2, 3, 5, 6, 7, 8, 12, 18, 20, 21, 25, 45, 46, 47, 53, 54, 55, 104, 105]
 | 5, 152 => [2, 3, 5, 6, 7, 8, 45, 46, 47, 53, 54, 55]
 | 5, 167 => [2, 3, 7]
 | 15, 12 => [2, 3, 9, 10, 11]
 | 15, 19 => [2, 3, 9, 10, 11, 16, 17, 18]
 | 17, 15 => [0, 1, 4, 5, 6, 7, 8]
 | 17, 27 => [0, 1, 4, 5, 6, 7, 8]
 | 8, 9 => [0, 2, 3]
 | 8, 14 => [0, 2, 3, 4, 5]
 | 8, 19 => [0, 2, 3, 4, 5, 6]
 | 30, 16 => [0, 1, 4, 6, 7]
 | 30, 20 => [0, 1, 4, 6, 7]
 | 30, 24 => [0, 1, 4, 6, 7]
 | 30, 28 => [0, 1, 4, 6, 7]
 | 30, 34 => [0, 1, 4, 6, 7]
 | 30, 37 => [0, 1, 4, 6, 7, 8]
 | 30, 51 => [0, 1, 4, 6, 7, 8, 9]
 | 30, 65 => [4, 7]
 | 31, 4 => [0, 2]
 | 31, 6 => [0, 2]
 | 31, 8 => [2]
 | 10, 10 => [0, 1, 4]
 | 10, 14 => [0, 1, 4, 12, 13]
 | 10, 24 => [0, 1, 4, 12, 13]
 | 7, 13 => [1, 2, 4, 5]
 | 7, 20 => [1, 2, 4, 5]
 | 7, 29 => [4, 5, 7]
 | 7, 43 => [4, 5, 8]
 | 9, 18 => [1, 2, 4, 5]
 | 9, 27 => [2, 4, 5, 24, 25, 26]
 | 9, 31 => [2, 4, 5, 7, 24, 25, 26]
 | 9, 39 => [2, 4, 5, 7, 8, 24, 25, 26, 36, 37, 38]
 | 9, 52 => [2, 4, 5, 7, 8, 24, 25, 26, 36, 37, 38]
 | 9, 66 => [4, 5, 63, 64, 65]
 | 9, 73 => [4, 5, 63, 64, 65]
 | 11, 24 => [2, 3, 4, 21, 22, 23]
 | 11, 32 => [2, 3, 4, 5, 21, 22, 23, 29, 30, 31]
 | 11, 37 => [2, 3, 4, 5, 21, 22, 23, 29, 30, 31]
 | 11, 50 => [2, 3, 4, 48, 49]
 | 11, 54 => [2, 3, 4, 9, 48, 49, 52, 53]
 | 11, 58 => [2, 3, 4, 9, 10, 48, 49, 52, 53, 56, 57]
 | 11, 77 => [2, 3, 4, 9, 10, 48, 49, 52, 53, 56, 57]
 | 11, 90 => [2, 3, 4, 88, 89]
 | 11, 99 => [2, 3, 4, 88, 89]
 | _, _ => []
def blkT (f k : Nat) : List Nat := match f, k with
 | 43, 0 => [2, 3]
 | 43, 1 => [2, 3, 6, 7, 8]
 | 51, 0 => [0, 1, 4]
 | 51, 1 => [0, 1, 4, 9, 10, 11]
 | 14, 0 => [2]
 | 14, 1 => [1, 2, 18, 19]
 | 34, 0 => [2, 4, 5]
 | 34, 1 => [2, 4, 5, 24, 25, 26]
 | 34, 2 => [4]
 | 34, 3 => [2, 4, 41, 42, 43]
 | 34, 4 => [2, 4, 9, 41, 42, 43]
 | 34, 5 => [2, 4, 9, 41, 42, 43, 72, 73, 74]
 | 53, 0 => [2]
 | 53, 1 => [0, 2, 15, 16]
 | 54, 0 => [2]
 | 54, 1 => [2, 25, 26, 27]
 | 16, 0 => [2, 3, 4]
 | 16, 1 => [0, 2, 3, 4, 5]
 | 48, 0 => [0, 2, 3]
 | 48, 1 => [0, 2, 3, 9, 10, 11]
 | 48, 2 => [2, 6]
 | 48, 3 => [2, 6, 25, 26, 27]
 | 45, 0 => [1, 2]
 | 45, 1 => [1, 2, 18, 19, 20]
 | 45, 2 => [2]
 | 45, 3 => [1, 2, 78, 79, 80]
 | 3, 0 => [1, 2, 4, 7, 11]
 | 3, 1 => [1, 2, 4, 7, 11, 47, 48, 49]
 | 13, 0 => [4]
 | 13, 1 => [0, 1, 4, 12, 13]
 | 33, 0 => [4]
 | 33, 1 => [0, 1, 4, 12, 13]
 | 5, 0 => [2, 3, 7]
 | 5, 1 => [2, 3, 5, 6, 7, 45, 46, 47]
 | 5, 2 => [2, 3, 5, 6, 7, 45, 46, 47]
 | 5, 3 => [2, 3, 5, 6, 7, 8, 45, 46, 47, 53, 54, 55]
 | 5, 4 => [2, 3, 5, 6, 7, 8, 11, 12, 45, 46, 47, 53, 54, 55]
 | 5, 5 => [2, 3, 5, 6, 7, 8, 11, 12, 45, 46, 47, 53, 54, 55, 66, 67, 68]
 | 5, 6 => [2, 3, 5, 6, 7, 8, 45, 46, 47, 53, 54, 55]
 | 5, 7 => [2, 3, 5, 6, 7, 8, 12, 18, 20, 21, 22, 23, 45, 46, 47, 53, 54, 55, 104, 105]
 | 15, 0 => [2, 3]
 | 15, 1 => [2, 3, 9, 10, 11]
 | 15, 2 => [2, 3, 9, 10, 11]
 | 15, 3 => [2, 3, 9, 10, 11, 16, 17, 18]
 | 17, 0 => [0, 1, 4, 5, 6, 7]
 | 17, 1 => [0, 1, 4, 5, 6, 7, 8]
 | 8, 0 => [2, 3, 4]
 | 8, 1 => [0, 2, 3, 4, 5]
 | 30, 0 => [4, 6, 7]
 | 30, 1 => [0, 1, 4, 6, 7, 8]
 | 10, 0 => [4]
 | 10, 1 => [0, 1, 4, 12, 13]
 | 9, 0 => [2, 4, 5]
 | 9, 1 => [2, 4, 5, 24, 25, 26]
 | 9, 2 => [2, 4, 8, 24, 25, 26]
 | 9, 3 => [2, 4, 5, 7, 8, 24, 25, 26, 36, 37, 38]
 | 9, 4 => [4]
 | 9, 5 => [4, 5, 63, 64, 65]
 | 11, 0 => [2, 3, 4]
 | 11, 1 => [2, 3, 4, 21, 22, 23]
 | 11, 2 => [2, 3, 4, 21, 22, 23]
 | 11, 3 => [2, 3, 4, 5, 21, 22, 23, 29, 30, 31]
 | 11, 4 => [2, 3, 4]
 | 11, 5 => [2, 3, 4, 48, 49]
 | 11, 6 => [2, 3, 4, 48, 49]
 | 11, 7 => [2, 3, 4, 9, 48, 49, 52, 53]
 | 11, 8 => [2, 3, 4, 9, 48, 49, 52, 53]
 | 11, 9 => [2, 3, 4, 9, 10, 48, 49, 52, 53, 56, 57]
 | 11, 10 => [2]
 | 11, 11 => [2, 3, 4, 88, 89]
 | _, _ => []
def accT (f : Nat) : List Nat := match f with
 | 5 => [12, 100701]
 | 8 => [4]
 | 15 => [3]
 | 16 => [4]
 | 48 => [6]
 | _ => []
def ownT : List Nat := [72, 103, 59, 19, 81, 86, 55, 80, 88, 74, 95, 64, 21, 107, 82, 91, 75, 49, 41, 96, 78, 76, 97, 79, 58, 25, 87, 101, 84, 61, 35, 104, 102, 63, 36, 27, 77, 89, 90, 92, 62, 105, 60, 65, 94, 85, 99, 98, 16, 8]
def rowT : List Nat := [5, 72, 103, 59, 19, 81, 86, 55, 80, 88, 74, 95, 64, 21, 107, 82, 91, 75, 49, 41, 96, 78, 76, 97, 79, 58, 25, 87, 101, 84, 61, 35, 104, 102, 63, 36, 27, 15, 77, 89, 90, 92, 62, 105, 60, 65, 94, 85, 99, 98]
def E0 : Env := { T := T, pureF := fun f => !ownT.contains f, keep := fun f => ⟨loopT f, condT f, blkT f⟩, acc := accT, rowF := fun f => rowT.contains f, rowM := false, ora := fun _ => none, oraD := fun _ => none, rowTy := fun t => [27, 36, 39].contains t, ownR := fun f => if [8, 16].contains f then some 0 else none }
theorem names_ok : ∀ (f : Nat) fn, Proofs.Tryz.prog.funcs[f]? = some fn → (fn.name == "runtime.NumGoroutine") = false := by
 intro f fn h
 have hall : (Proofs.Tryz.prog.funcs.toList.all fun fn => !(fn.name == "runtime.NumGoroutine")) = true := by kernel_rfl
 have := List.all_eq_true.1 hall fn (List.mem_of_getElem? (by simpa using h))
 simpa using this
theorem good0 {DR : Prop} : Good DR Proofs.Tryz.prog E0 := ⟨by kernel_rfl, T_ok, names_ok, (fun f F h => by cases h), (fun f F h => by cases h)⟩
def f46n (m : Nat) (a0 : (List (Cc 2))) : Option (List (Cc 2)) :=
 bnd (app 16 [] a0) fun v1 =>
 some v1
noncomputable abbrev X46n (n : Nat) : Cx := cxOf Proofs.Tryz.prog E0 46 n
theorem ok46n (m : Nat) (a0 : (List (Cc 2))) (o : (List (Cc 2))) (h : f46n m a0 = some o) (n : Nat) (hn : m + 1 ≤ n) : Fn Proofs.Tryz.prog E0 n 46 [.v (.sl .non (List.map (cc 2) a0))] ((eL (cc 2)) o) := by
 obtain ⟨n, rfl⟩ : ∃ q, n = q + 1 := ⟨n - 1, by omega⟩
 unfold f46n at h
 refine Fn.of (by kernel_rfl) (by kernel_rfl) (by kernel_rfl) ⟨(.v (.sl .non (List.map (cc 2) a0))) :: u7 [], []⟩ (by kernel_rfl) ?_
 refine Wp.sq ?_
 refine Wp.rg ?_
 refine Ops.sg 1 1 ?_
 refine Ops.dn ?_
 refine seqQ.n ?_
 refine Wp.sq ?_
 refine Wp.sq ?_
 refine Wp.rg ?_
 refine Ops.sg 1 1 ?_
 refine Ops.on 2 (fun h0 e0 => (nil_non (T := T) h0 28 53 .non (cc 2) a0 rfl (by kernel_rfl))) ?_
 refine Ops.dn ?_
 refine seqQ.n ?_
 refine Wp.condF [0, 2] 0 (by kernel_rfl) ?_
 refine Wp.sk ?_
 refine sqQ.n' ?_
 refine seqQ.n ?_
 refine Wp.sq ?_
 refine Wp.rg ?_
 refine Ops.sg 2 2 ?_
 obtain ⟨v1, ev1, h⟩ := bnd_some h
 refine Ops.on 3 (fun h0 e0 => (app_n (T := T) (g := .nonfull) h0 28 53 2 ti53 .non (cc 2) a0 v1 ev1 (by kernel_rfl) (by kernel_rfl) (by kernel_rfl) (by kernel_rfl) (fun x => x.2))) ?_
 refine Ops.sg 1 4 ?_
 refine Ops.dn ?_
 refine seqQ.n ?_
 refine Wp.ret (by kernel_rfl) ?_
 exact fnQ.r' (X46n n) (fun z => ((eL (cc 2)) z)) h (RetOk.mk' (appF .nonfull 0 (List.map (cc 2) v1)) (by kernel_rfl) (appD_frz _ _ _ _))
theorem clone46 : Is Proofs.Tryz.prog 46 ∧ ∀ vs r, cloneF 2 16 vs = some r → ∀ S w us, RelL S [] w us (vs.map .v) → (∀ b i, S b i → b < w.heap.size) → Glob S w →
  Calls Proofs.Tryz.prog 46 us w fun e w' => ∃ v S', e = .returned v ∧ Ext False S [] w S' [] w' ∧ HInv S' [] w' [] ∧ RelV S' w' v r := by
 refine clone_sound (good0 (DR := False)) ⟨.v (.sl .nil []), [], by kernel_rfl, by kernel_rfl⟩ fun es h1 h2 h3 => ?_
 obtain ⟨l, rfl⟩ := sub_list es h1
 have h4 : f46n 1 l = some l := by
  unfold f46n app
  rw [List.length_map] at h2 h3
  simp only [List.length_nil, Nat.zero_add, List.nil_append]
  rw [if_pos ⟨h2, h3⟩]
  rfl
 exact ok46n 1 l l h4 3 (by omega)
def f71n (m : Nat) (a0 : (List (Cc 5))) : Option (List (Cc 5)) :=
 bnd (app 40 [] a0) fun v1 =>
 some v1
noncomputable abbrev X71n (n : Nat) : Cx := cxOf Proofs.Tryz.prog E0 71 n
theorem ok71n (m : Nat) (a0 : (List (Cc 5))) (o : (List (Cc 5))) (h : f71n m a0 = some o) (n : Nat) (hn : m + 1 ≤ n) : Fn Proofs.Tryz.prog E0 n 71 [.v (.sl .non (List.map (cc 5) a0))] ((eL (cc 5)) o) := by
 obtain ⟨n, rfl⟩ : ∃ q, n = q + 1 := ⟨n - 1, by omega⟩
 unfold f71n at h
 refine Fn.of (by kernel_rfl) (by kernel_rfl) (by kernel_rfl) ⟨(.v (.sl .non (List.map (cc 5) a0))) :: u7 [], []⟩ (by kernel_rfl) ?_
 refine Wp.sq ?_
 refine Wp.rg ?_
 refine Ops.sg 1 1 ?_
 refine Ops.dn ?_
 refine seqQ.n ?_
 refine Wp.sq ?_
 refine Wp.sq ?_
 refine Wp.rg ?_
 refine Ops.sg 1 1 ?_
 refine Ops.on 2 (fun h0 e0 => (nil_non (T := T) h0 27 62 .non (cc 5) a0 rfl (by kernel_rfl))) ?_
 refine Ops.dn ?_
 refine seqQ.n ?_
 refine Wp.condF [0, 2] 0 (by kernel_rfl) ?_
 refine Wp.sk ?_
 refine sqQ.n' ?_
 refine seqQ.n ?_
 refine Wp.sq ?_
 refine Wp.rg ?_
 refine Ops.sg 2 2 ?_
 obtain ⟨v1, ev1, h⟩ := bnd_some h
 refine Ops.on 3 (fun h0 e0 => (app_n (T := T) (g := .nonfull) h0 27 62 5 ti62 .non (cc 5) a0 v1 ev1 (by kernel_rfl) (by kernel_rfl) (by kernel_rfl) (by kernel_rfl) (fun x => x.2))) ?_
 refine Ops.sg 1 4 ?_
 refine Ops.dn ?_
 refine seqQ.n ?_
 refine Wp.ret (by kernel_rfl) ?_
 exact fnQ.r' (X71n n) (fun z => ((eL (cc 5)) z)) h (RetOk.mk' (appF .nonfull 0 (List.map (cc 5) v1)) (by kernel_rfl) (appD_frz _ _ _ _))
theorem clone71 : Is Proofs.Tryz.prog 71 ∧ ∀ vs r, cloneF 5 40 vs = some r → ∀ S w us, RelL S [] w us (vs.map .v) → (∀ b i, S b i → b < w.heap.size) → Glob S w →
  Calls Proofs.Tryz.prog 71 us w fun e w' => ∃ v S', e = .returned v ∧ Ext False S [] w S' [] w' ∧ HInv S' [] w' [] ∧ RelV S' w' v r := by
 refine clone_sound (good0 (DR := False)) ⟨.v (.sl .nil []), [], by kernel_rfl, by kernel_rfl⟩ fun es h1 h2 h3 => ?_
 obtain ⟨l, rfl⟩ := sub_list es h1
 have h4 : f71n 1 l = some l := by
  unfold f71n app
  rw [List.length_map] at h2 h3
  simp only [List.length_nil, Nat.zero_add, List.nil_append]
  rw [if_pos ⟨h2, h3⟩]
  rfl
 exact ok71n 1 l l h4 3 (by omega)
def oraT1 (f : Nat) : Option (List V → Option V) := match f with
 | 46 => some (cloneF 2 16)
 | 71 => some (cloneF 5 40)
 | 38 => some decodeF
 | 83 => some ixbyteF
 | _ => none
def E1 : Env := { E0 with ora := oraT1 }
def oraT (f : Nat) : Option (List V → Option V) := match f with
 | f => oraT1 f
def oraDT (f : Nat) : Option (List D → List AObj → Option (D × List AObj)) := match f with
 | 35 => some sortF
 | 36 => some compactF
 | 74 => some (growF 1 16)
 | _ => none
def E : Env := { E0 with ora := oraT, oraD := oraDT }
theorem isd35 : Is Proofs.Tryz.prog 35 := ⟨Proofs.Tryz.f35, Proofs.Tryz.func35, by kernel_rfl, by kernel_rfl⟩
theorem orad35 : DOk False Proofs.Tryz.prog 35 sortF := sort_sound isd35 (fun blk off cap ss w h1 h2 h3 => Proofs.Tryz.slices_Sort_string blk off cap ss w h1 h2 h3) (fun p cap w => Proofs.Tryz.slices_Sort_string_none p cap w)
theorem isd36 : Is Proofs.Tryz.prog 36 := ⟨Proofs.Tryz.f36, Proofs.Tryz.func36, by kernel_rfl, by kernel_rfl⟩
theorem orad36 : DOk False Proofs.Tryz.prog 36 compactF := compact_sound isd36 (fun blk off cap zs w h1 h2 h3 => Proofs.Tryz.slices_Compact_string blk off cap zs w h1 h2 h3) (fun a cap w => Proofs.Tryz.slices_Compact_string_empty a cap w)
theorem isd74 : Is Proofs.Tryz.prog 74 := ⟨Proofs.Tryz.f74, Proofs.Tryz.func74, by kernel_rfl, by kernel_rfl⟩
theorem orad74 : DOk False Proofs.Tryz.prog 74 (growF 1 16) := grow74 isd74
theorem oraD_ok : DSound False Proofs.Tryz.prog E := by
 intro f F h
 have h : oraDT f = some F := h
 unfold oraDT at h
 split at h <;> first | (cases h; done) | skip
 ·cases h; exact orad35
 ·cases h; exact orad36
 ·cases h; exact orad74
theorem tabs_of_glob {S : Nat → Nat → Prop} {w : World} (h : Glob S w) : Lib.Utf8Tabs 0 1 w := by
 refine ⟨fun c hc => ?_, fun i hi => ?_⟩
 ·obtain ⟨_, v, h2, h3⟩ := h 0 firstTab rfl c (.int .u8 (Lib.firstT c)) (by simp [firstTab, hc])
  cases h3
  exact h2
 ·obtain ⟨_, v, h2, h3⟩ := h 1 acceptTab rfl (2 * i) (.int .u8 (Lib.accLo i)) (by simp [acceptTab, show 2 * i < 32 by omega, show 2 * i / 2 = i by omega])
  cases h3
  obtain ⟨_, v, g2, g3⟩ := h 1 acceptTab rfl (2 * i + 1) (.int .u8 (Lib.accHi i)) (by simp [acceptTab, show 2 * i + 1 < 32 by omega, show (2 * i + 1) / 2 = i by omega])
  cases g3
  exact ⟨h2, g2⟩
theorem is38 : Is Proofs.Tryz.prog 38 := ⟨Proofs.Tryz.f38, Proofs.Tryz.func38, by kernel_rfl, by kernel_rfl⟩
theorem ora38 : OraOk False Proofs.Tryz.prog 38 decodeF := decode_sound (fun h => h) is38 fun S w hg => ⟨0, 1, tabs_of_glob hg, fun s => Proofs.Tryz.utf8_DecodeRuneInString s w (tabs_of_glob hg)⟩
theorem is83 : Is Proofs.Tryz.prog 83 := ⟨Proofs.Tryz.f83, Proofs.Tryz.func83, by kernel_rfl, by kernel_rfl⟩
theorem ora83 : OraOk False Proofs.Tryz.prog 83 ixbyteF := ixbyte_sound is83 fun s c w => Proofs.Tryz.strings_IndexByte s c w
theorem ora1_ok : OSound False Proofs.Tryz.prog E1 := by
 intro f F h
 have h : oraT1 f = some F := h
 unfold oraT1 at h
 split at h <;> first | (cases h; done) | skip
 ·cases h; exact clone46
 ·cases h; exact clone71
 ·cases h; exact ora38
 ·cases h; exact ora83
theorem ora_ok : OSound False Proofs.Tryz.prog E := by
 intro f F h
 have h : oraT f = some F := h
 unfold oraT at h
 exact ora1_ok f F h
theorem good : Good False Proofs.Tryz.prog E := ⟨(good0 (DR := False)).mixed, T_ok, names_ok, ora_ok, oraD_ok⟩
structure S57 where
 fBase : ByteArray
 fForm : ByteArray
 fTags : (List ByteArray)
 fNext : Int
 fWeight : Int
def e57 : S57 → V := fun x => (.agg [(.str x.fBase), (.str x.fForm), (vP eS x.fTags), (vI x.fNext), (vI x.fWeight)])
structure S55 where
 fName : ByteArray
 fItems : (List S57)
def e55 : S55 → V := fun x => (.agg [(.str x.fName), (vP e57 x.fItems)])
structure S23 where
 fClasses : (List S55)
def e23 : S23 → V := fun x => (.agg [(vP e55 x.fClasses)])
structure S61 where
 fFrom : Int
 fTo : Int
 fIn : Int
 fOut : Int
 fWeight : Int
def e61 : S61 → V := fun x => (.agg [(vI x.fFrom), (vI x.fTo), (vI x.fIn), (vI x.fOut), (vI x.fWeight)])
structure S52 where
 fState : Int
 fWeight : Int
def e52 : S52 → V := fun x => (.agg [(vI x.fState), (vI x.fWeight)])
structure S29 where
 fStates : Int
 fArcs : (List S61)
 fFinals : (List S52)
def e29 : S29 → V := fun x => (.agg [(vI x.fStates), (vP e61 x.fArcs), (vP e52 x.fFinals)])
structure S31 where
 fCode : Int
 fIndex : Int
def e31 : S31 → V := fun x => (.agg [(vI x.fCode), (vI x.fIndex)])
structure S40 where
 fBase : ByteArray
 fForm : ByteArray
 fTags : (List ByteArray)
 fWeight : Int
def e40 : S40 → V := fun x => (.agg [(.str x.fBase), (.str x.fForm), (vP eS x.fTags), (vI x.fWeight)])
end Go.Abs
