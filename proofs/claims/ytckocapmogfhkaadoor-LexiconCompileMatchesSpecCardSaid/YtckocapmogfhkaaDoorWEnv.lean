import Derived.Test.YtckocapmogfhkaaDoorAbsW
import Derived.Test.YtckocapmogfhkaaDoorAbsL
import Derived.Test.YtckocapmogfhkaaDoorAbsN
import Derived.Test.YtckocapmogfhkaaDoorAbsU
import Derived.Test.YtckocapmogfhkaaDoorShelf
import Derived.Test.YtckocapmogfhkaaDoorAbsM
import Derived.Test.YtckocapmogfhkaaDoorAbsRw
import Derived.Test.YtckocapmogfhkaaDoorAbsKp
import Derived.Test.YtckocapmogfhkaaDoorProg
namespace Go.Abs
set_option linter.unusedVariables false
set_option maxRecDepth 100000
theorem Ops.hv {X : Cx} {ops : List Oper} {i : Nat} {σ : St} {Q : St → Prop} (P : (Nat → St → Prop) → Prop) (h1 : P fun j τ => Ops X ops j τ Q) (h2 : (P fun j τ => Ops X ops j τ Q) → Ops X ops i σ Q) : Ops X ops i σ Q := h2 h1
def ti3 : TI := ⟨.int .i64, 1, 8, .int .i64 (0), true⟩
def ti4 : TI := ⟨.bool, 1, 1, .bool false, true⟩
def ti5 : TI := ⟨.int .u8, 1, 1, .int .u8 (0), true⟩
def ti9 : TI := ⟨.str, 1, 16, .str ByteArray.empty, true⟩
def ti21 : TI := ⟨.int .i32, 1, 4, .int .i32 (0), true⟩
def ti22 : TI := ⟨.slice 38, 1, 24, .sl .nil [], true⟩
def ti24 : TI := ⟨.struct [(0, 22)], 1, 24, .agg [.sl .nil []], true⟩
def ti25 : TI := ⟨.slice 41, 1, 24, .sl .nil [], true⟩
def ti26 : TI := ⟨.slice 43, 1, 24, .sl .nil [], true⟩
def ti28 : TI := ⟨.struct [(0, 3), (1, 25), (2, 26)], 3, 56, .agg [.int .i64 (0), .sl .nil [], .sl .nil []], true⟩
def ti30 : TI := ⟨.struct [(0, 3), (1, 3)], 2, 16, .agg [.int .i64 (0), .int .i64 (0)], true⟩
def ti33 : TI := ⟨.slice 9, 1, 24, .sl .nil [], true⟩
def ti35 : TI := ⟨.struct [(0, 9), (1, 9), (2, 33), (3, 3), (4, 3)], 5, 72, .agg [.str ByteArray.empty, .str ByteArray.empty, .sl .nil [], .int .i64 (0), .int .i64 (0)], true⟩
def ti36 : TI := ⟨.slice 35, 1, 24, .sl .nil [], true⟩
def ti38 : TI := ⟨.struct [(0, 9), (1, 36)], 2, 40, .agg [.str ByteArray.empty, .sl .nil []], true⟩
def ti41 : TI := ⟨.struct [(0, 3), (1, 3), (2, 3), (3, 3), (4, 3)], 5, 40, .agg [.int .i64 (0), .int .i64 (0), .int .i64 (0), .int .i64 (0), .int .i64 (0)], true⟩
def ti43 : TI := ⟨.struct [(0, 3), (1, 3)], 2, 16, .agg [.int .i64 (0), .int .i64 (0)], true⟩
def ti47 : TI := ⟨.slice 3, 1, 24, .sl .nil [], true⟩
def ti62 : TI := ⟨.int .u64, 1, 8, .int .u64 (0), true⟩
def T (t : Nat) : Option TI := match t with
 | 3 => some ti3
 | 4 => some ti4
 | 5 => some ti5
 | 9 => some ti9
 | 21 => some ti21
 | 22 => some ti22
 | 24 => some ti24
 | 25 => some ti25
 | 26 => some ti26
 | 28 => some ti28
 | 30 => some ti30
 | 33 => some ti33
 | 35 => some ti35
 | 36 => some ti36
 | 38 => some ti38
 | 41 => some ti41
 | 43 => some ti43
 | 47 => some ti47
 | 62 => some ti62
 | _ => none
theorem T_ok : ∀ t i, T t = some i → tiOf Proofs.Tryd.prog t = some i := by
 intro t i h
 unfold T at h
 split at h <;> first | (cases h; kernel_rfl) | (cases h; done)
def loopT (f k : Nat) : List Nat := match f, k with
 | 29, 3 => [2, 3, 6, 7, 8]
 | 4, 8 => [2, 3, 5, 6, 7, 45, 46, 47]
 | 4, 11 => [2, 3, 5, 6, 7, 8, 45, 46, 47, 53, 54, 55]
 | 4, 15 => [2, 3, 5, 6, 7, 8, 11, 12, 45, 46, 47, 53, 54, 55, 66, 67, 68]
 | 4, 27 => [2, 3, 5, 6, 7, 8, 12, 18, 20, 21, 22, 23, 45, 46, 47, 53, 54, 55, 104, 105]
 | 7, 4 => [1, 2, 18, 19]
 | 20, 5 => [2, 4, 5, 24, 25, 26]
 | 20, 13 => [2, 4, 41, 42, 43]
 | 20, 20 => [2, 4, 9, 41, 42, 43, 72, 73, 74]
 | 38, 4 => [0, 2, 15, 16]
 | 39, 5 => [2, 25, 26, 27]
 | 9, 5 => [0, 2, 3, 4, 5]
 | 8, 3 => [2, 3, 9, 10, 11]
 | 8, 6 => [2, 3, 9, 10, 11, 16, 17, 18]
 | 10, 3 => [0, 1, 4, 5, 6, 7, 8]
 | 5, 4 => [2, 3, 4, 32, 33]
 | 5, 10 => [2, 3, 4, 50, 51]
 | 6, 8 => [2, 3, 5, 6, 7, 42, 43, 44]
 | 6, 11 => [2, 3, 5, 6, 7, 8, 42, 43, 44, 50, 51, 52]
 | 6, 15 => [2, 3, 5, 6, 7, 8, 11, 12, 42, 43, 44, 50, 51, 52, 63, 64, 65]
 | 6, 18 => [2, 3, 5, 6, 7, 8, 11, 12, 15, 42, 43, 44, 50, 51, 52, 63, 64, 65, 69, 70, 71]
 | 6, 31 => [2, 3, 5, 6, 7, 8, 11, 12, 18, 20, 21, 42, 43, 44, 50, 51, 52]
 | 15, 5 => [1, 2, 3, 21, 22, 23]
 | 15, 10 => [1, 2, 3, 4, 5, 6, 21, 22, 23]
 | 15, 17 => [1, 2, 3, 4, 21, 22, 23, 57, 58, 59]
 | 31, 4 => [0, 2, 3]
 | 54, 5 => [2, 27, 28, 29]
 | 54, 8 => [2, 6, 27, 28, 29, 33, 34, 35]
 | 17, 5 => [0, 2, 3, 4, 5]
 | 35, 18 => [0, 1, 4, 6, 7, 8]
 | 33, 4 => [4, 11, 12, 13]
 | 16, 3 => [2, 3, 12, 13, 14]
 | 16, 6 => [2, 3, 12, 13, 14, 19, 20, 21]
 | 16, 9 => [2, 3, 12, 13, 14, 19, 20, 21, 26, 27, 28]
 | 16, 12 => [2, 3, 9, 10, 12, 13, 14, 19, 20, 21, 26, 27, 28]
 | 19, 3 => [1, 4, 5, 6]
 | 19, 6 => [1, 4, 5, 6, 7]
 | 19, 11 => [1, 4, 5, 8, 55, 56, 57]
 | 37, 4 => [4, 5, 6, 31, 32]
 | _, _ => []
def condT (f k : Nat) : List Nat := match f, k with
 | 30, 11 => [0, 1, 4, 6]
 | 30, 12 => [4]
 | 30, 13 => [0, 1, 4]
 | 30, 16 => [0, 1, 4]
 | 30, 19 => [4]
 | 29, 9 => [2, 3, 6, 7, 8]
 | 29, 14 => [2, 3, 6, 7, 8]
 | 3, 29 => [1, 2, 3, 4]
 | 4, 30 => [1, 2, 3]
 | 4, 48 => [2, 3, 5, 6, 7, 45, 46, 47]
 | 4, 56 => [2, 3, 5, 6, 7, 8, 45, 46, 47, 53, 54, 55]
 | 4, 69 => [2, 3, 5, 6, 7, 8, 11, 12, 45, 46, 47, 53, 54, 55, 66, 67, 68]
 | 4, 93 => [2, 3, 5, 6, 7, 8, 11, 12, 18, 20, 45, 46, 47, 53, 54, 55]
 | 4, 106 => [2, 3, 5, 6, 7, 8, 12, 18, 20, 21, 22, 23, 45, 46, 47, 53, 54, 55, 104, 105]
 | 4, 115 => [2, 3, 5, 6, 7, 8, 12, 18, 20, 21, 24, 25, 45, 46, 47, 53, 54, 55, 104, 105]
 | 4, 124 => [2, 3, 5, 6, 7, 8, 12, 18, 20, 21, 24, 25, 45, 46, 47, 53, 54, 55, 104, 105]
 | 4, 133 => [2, 3, 5, 6, 7, 8, 12, 18, 20, 21, 25, 45, 46, 47, 53, 54, 55, 104, 105]
 | 4, 152 => [2, 3, 5, 6, 7, 8, 45, 46, 47, 53, 54, 55]
 | 4, 167 => [2, 3, 7]
 | 7, 14 => [1, 2]
 | 7, 20 => [1, 2, 18, 19]
 | 7, 26 => [1, 2, 18, 19]
 | 20, 20 => [1, 2, 4, 5]
 | 20, 27 => [2, 4, 5, 24, 25, 26]
 | 20, 34 => [2, 4, 5, 24, 25, 26]
 | 20, 39 => [2, 4, 5]
 | 20, 44 => [2, 4, 41, 42, 43]
 | 20, 66 => [2, 4, 9, 41, 42, 43]
 | 20, 70 => [2, 4, 9, 41, 42, 43]
 | 20, 75 => [2, 4, 9, 41, 42, 43, 72, 73, 74]
 | 20, 80 => [2, 4, 9, 41, 42, 43, 72, 73, 74]
 | 20, 102 => [2, 4, 41, 42, 43]
 | 38, 13 => [0, 2]
 | 38, 17 => [0, 2, 15, 16]
 | 38, 49 => [0, 2, 15, 16]
 | 39, 24 => [2, 3]
 | 39, 28 => [2, 25, 26, 27]
 | 39, 46 => [2, 25, 26, 27]
 | 9, 10 => [0, 2, 3]
 | 9, 15 => [0, 2, 3, 4, 5]
 | 9, 28 => [0, 2, 3, 4, 5, 6, 7]
 | 24, 10 => [2, 3]
 | 8, 12 => [2, 3, 9, 10, 11]
 | 8, 19 => [2, 3, 9, 10, 11, 16, 17, 18]
 | 10, 15 => [0, 1, 4, 5, 6, 7, 8]
 | 10, 27 => [0, 1, 4, 5, 6, 7, 8]
 | 5, 29 => [2, 3, 4]
 | 5, 34 => [2, 3, 4, 32, 33]
 | 5, 46 => [2, 3, 4, 32, 33]
 | 5, 52 => [2, 3, 4, 50, 51]
 | 5, 64 => [2, 3, 4, 50, 51]
 | 6, 27 => [1, 2, 3]
 | 6, 45 => [2, 3, 5, 6, 7, 42, 43, 44]
 | 6, 53 => [2, 3, 5, 6, 7, 8, 42, 43, 44, 50, 51, 52]
 | 6, 66 => [2, 3, 5, 6, 7, 8, 11, 12, 42, 43, 44, 50, 51, 52, 63, 64, 65]
 | 6, 72 => [2, 3, 5, 6, 7, 8, 11, 12, 15, 42, 43, 44, 50, 51, 52, 63, 64, 65, 69, 70, 71]
 | 6, 78 => [2, 3, 5, 6, 7, 8, 11, 12, 15, 42, 43, 44, 50, 51, 52, 63, 64, 65, 69, 70, 71]
 | 6, 95 => [2, 3, 5, 6, 7, 8, 11, 12, 18, 20, 42, 43, 44, 50, 51, 52]
 | 6, 101 => [2, 3, 5, 6, 7, 8, 11, 12, 18, 20, 42, 43, 44, 50, 51, 52]
 | 6, 106 => [2, 3, 5, 6, 7, 8, 11, 12, 18, 20, 21, 42, 43, 44, 50, 51, 52]
 | 6, 114 => [2, 3, 5, 6, 7, 8, 11, 12, 18, 20, 21, 22, 42, 43, 44, 50, 51, 52]
 | 6, 119 => [2, 3, 5, 6, 7, 8, 11, 12, 18, 20, 21, 22, 42, 43, 44, 50, 51, 52]
 | 6, 132 => [2, 3, 5, 6, 7, 8, 11, 12, 18, 20, 21, 22, 42, 43, 44, 50, 51, 52]
 | 6, 141 => [2, 3, 5, 6, 7, 8, 11, 12, 18, 20, 21, 22, 42, 43, 44, 50, 51, 52]
 | 6, 150 => [2, 3, 5, 6, 7, 8, 11, 12, 18, 20, 21, 22, 42, 43, 44, 50, 51, 52]
 | 6, 172 => [2, 3, 7]
 | 6, 182 => [2, 3, 7]
 | 15, 18 => [1, 2, 3]
 | 15, 24 => [1, 2, 3, 21, 22, 23]
 | 15, 31 => [1, 2, 3, 4, 5, 21, 22, 23]
 | 15, 36 => [1, 2, 3, 4, 5, 6, 21, 22, 23]
 | 15, 47 => [1, 2, 3, 4, 5, 6, 21, 22, 23]
 | 15, 53 => [1, 2, 3, 4, 5, 21, 22, 23]
 | 15, 60 => [1, 2, 3, 4, 21, 22, 23, 57, 58, 59]
 | 15, 72 => [1, 2, 3, 4, 8, 21, 22, 23, 57, 58, 59]
 | 15, 79 => [1, 2, 3, 4, 8, 21, 22, 23, 57, 58, 59]
 | 15, 101 => [1, 2, 3, 4, 21, 22, 23, 57, 58, 59]
 | 31, 22 => [0, 2]
 | 31, 26 => [0, 2, 3]
 | 31, 54 => [0, 2, 3]
 | 54, 26 => [2, 3]
 | 54, 30 => [2, 27, 28, 29]
 | 54, 36 => [2, 6, 27, 28, 29, 33, 34, 35]
 | 54, 41 => [2, 6, 27, 28, 29, 33, 34, 35]
 | 54, 44 => [2, 27, 28, 29]
 | 17, 9 => [0, 2, 3]
 | 17, 14 => [0, 2, 3, 4, 5]
 | 17, 19 => [0, 2, 3, 4, 5, 6]
 | 35, 16 => [0, 1, 4, 6, 7]
 | 35, 20 => [0, 1, 4, 6, 7]
 | 35, 24 => [0, 1, 4, 6, 7]
 | 35, 28 => [0, 1, 4, 6, 7]
 | 35, 34 => [0, 1, 4, 6, 7]
 | 35, 37 => [0, 1, 4, 6, 7, 8]
 | 35, 51 => [0, 1, 4, 6, 7, 8, 9]
 | 35, 65 => [4, 7]
 | 36, 4 => [0, 2]
 | 36, 6 => [0, 2]
 | 36, 8 => [2]
 | 33, 10 => [0, 4]
 | 33, 14 => [4, 11, 12, 13]
 | 33, 19 => [4, 11, 12, 13]
 | 16, 15 => [2, 3, 12, 13, 14]
 | 16, 22 => [2, 3, 12, 13, 14, 19, 20, 21]
 | 16, 29 => [2, 3, 12, 13, 14, 19, 20, 21, 26, 27, 28]
 | 16, 43 => [2, 3, 9, 10, 12, 13, 14, 19, 20, 21, 26, 27, 28]
 | 16, 57 => [2, 3, 12, 13, 14, 19, 20, 21, 26, 27, 28]
 | 19, 19 => [1, 4, 5, 6]
 | 19, 36 => [1, 4, 5, 6, 7]
 | 19, 58 => [1, 4, 5, 8, 55, 56, 57]
 | 19, 63 => [1, 4, 5, 8, 10, 55, 56, 57]
 | 19, 105 => [1, 4, 5, 8, 10, 55, 56, 57]
 | 37, 33 => [4, 5, 6, 31, 32]
 | 37, 43 => [4, 5, 6, 31, 32]
 | _, _ => []
def blkT (f k : Nat) : List Nat := match f, k with
 | 29, 0 => [2, 3]
 | 29, 1 => [2, 3, 6, 7, 8]
 | 4, 0 => [2, 3, 7]
 | 4, 1 => [2, 3, 5, 6, 7, 45, 46, 47]
 | 4, 2 => [2, 3, 5, 6, 7, 45, 46, 47]
 | 4, 3 => [2, 3, 5, 6, 7, 8, 45, 46, 47, 53, 54, 55]
 | 4, 4 => [2, 3, 5, 6, 7, 8, 11, 12, 45, 46, 47, 53, 54, 55]
 | 4, 5 => [2, 3, 5, 6, 7, 8, 11, 12, 45, 46, 47, 53, 54, 55, 66, 67, 68]
 | 4, 6 => [2, 3, 5, 6, 7, 8, 45, 46, 47, 53, 54, 55]
 | 4, 7 => [2, 3, 5, 6, 7, 8, 12, 18, 20, 21, 22, 23, 45, 46, 47, 53, 54, 55, 104, 105]
 | 7, 0 => [2]
 | 7, 1 => [1, 2, 18, 19]
 | 20, 0 => [2, 4, 5]
 | 20, 1 => [2, 4, 5, 24, 25, 26]
 | 20, 2 => [4]
 | 20, 3 => [2, 4, 41, 42, 43]
 | 20, 4 => [2, 4, 9, 41, 42, 43]
 | 20, 5 => [2, 4, 9, 41, 42, 43, 72, 73, 74]
 | 38, 0 => [2]
 | 38, 1 => [0, 2, 15, 16]
 | 39, 0 => [2]
 | 39, 1 => [2, 25, 26, 27]
 | 9, 0 => [2, 3, 4]
 | 9, 1 => [0, 2, 3, 4, 5]
 | 8, 0 => [2, 3]
 | 8, 1 => [2, 3, 9, 10, 11]
 | 8, 2 => [2, 3, 9, 10, 11]
 | 8, 3 => [2, 3, 9, 10, 11, 16, 17, 18]
 | 10, 0 => [0, 1, 4, 5, 6, 7]
 | 10, 1 => [0, 1, 4, 5, 6, 7, 8]
 | 5, 0 => [2, 3, 4]
 | 5, 1 => [2, 3, 4, 32, 33]
 | 5, 2 => [4]
 | 5, 3 => [2, 3, 4, 50, 51]
 | 6, 0 => [2, 3, 7]
 | 6, 1 => [2, 3, 5, 6, 7, 42, 43, 44]
 | 6, 2 => [2, 3, 5, 6, 7, 42, 43, 44]
 | 6, 3 => [2, 3, 5, 6, 7, 8, 42, 43, 44, 50, 51, 52]
 | 6, 4 => [2, 3, 5, 6, 7, 8, 11, 12, 42, 43, 44, 50, 51, 52]
 | 6, 5 => [2, 3, 5, 6, 7, 8, 11, 12, 42, 43, 44, 50, 51, 52, 63, 64, 65]
 | 6, 6 => [2, 3, 5, 6, 7, 8, 11, 12, 42, 43, 44, 50, 51, 52, 63, 64, 65]
 | 6, 7 => [2, 3, 5, 6, 7, 8, 11, 12, 15, 42, 43, 44, 50, 51, 52, 63, 64, 65, 69, 70, 71]
 | 6, 8 => [2, 3, 5, 6, 7, 8, 20, 42, 43, 44, 50, 51, 52]
 | 6, 9 => [2, 3, 5, 6, 7, 8, 11, 12, 18, 20, 21, 42, 43, 44, 50, 51, 52]
 | 15, 0 => [2]
 | 15, 1 => [1, 2, 3, 21, 22, 23]
 | 15, 2 => [1, 2, 3, 4, 5, 21, 22, 23]
 | 15, 3 => [1, 2, 3, 4, 5, 6, 21, 22, 23]
 | 15, 4 => [1, 2, 3, 21, 22, 23]
 | 15, 5 => [1, 2, 3, 4, 21, 22, 23, 57, 58, 59]
 | 31, 0 => [2]
 | 31, 1 => [0, 2, 3]
 | 54, 0 => [2]
 | 54, 1 => [2, 27, 28, 29]
 | 54, 2 => [2, 6, 27, 28, 29]
 | 54, 3 => [2, 6, 27, 28, 29, 33, 34, 35]
 | 17, 0 => [2, 3, 4]
 | 17, 1 => [0, 2, 3, 4, 5]
 | 35, 0 => [4, 6, 7]
 | 35, 1 => [0, 1, 4, 6, 7, 8]
 | 33, 0 => [4]
 | 33, 1 => [4, 11, 12, 13]
 | 16, 0 => [2, 3]
 | 16, 1 => [2, 3, 12, 13, 14]
 | 16, 2 => [2, 3, 12, 13, 14]
 | 16, 3 => [2, 3, 12, 13, 14, 19, 20, 21]
 | 16, 4 => [2, 3, 12, 13, 14, 19, 20, 21]
 | 16, 5 => [2, 3, 12, 13, 14, 19, 20, 21, 26, 27, 28]
 | 16, 6 => [2, 3, 9, 10, 12, 13, 14, 19, 20, 21, 26, 27, 28]
 | 16, 7 => [2, 3, 9, 10, 12, 13, 14, 19, 20, 21, 26, 27, 28]
 | 19, 0 => [1, 4, 5]
 | 19, 1 => [1, 4, 5, 6]
 | 19, 2 => [1, 4, 5, 6]
 | 19, 3 => [1, 4, 5, 6, 7]
 | 19, 4 => [4, 8]
 | 19, 5 => [1, 4, 5, 8, 55, 56, 57]
 | 37, 0 => [4]
 | 37, 1 => [4, 5, 6, 31, 32]
 | _, _ => []
def accT (f : Nat) : List Nat := match f with
 | 4 => [12, 100701]
 | 6 => [12, 100701]
 | 8 => [3]
 | 9 => [4]
 | 16 => [3]
 | 17 => [4]
 | 19 => [8]
 | _ => []
def ownT : List Nat := [40, 63, 74, 45, 67, 62, 43, 68, 14, 72, 64, 65, 58, 61, 73, 27, 47, 71, 48, 12, 57, 76, 49, 22, 69, 46, 21, 44, 59, 50, 60, 9, 17]
def rowT : List Nat := [40, 63, 74, 4, 45, 67, 62, 43, 68, 14, 72, 8, 64, 65, 58, 61, 73, 27, 19, 47, 71, 48, 12, 57, 76, 49, 22, 69, 46, 21, 44, 59, 50, 60]
def E0 : Env := { T := T, pureF := fun f => !ownT.contains f, keep := fun f => ⟨loopT f, condT f, blkT f⟩, acc := accT, rowF := fun f => rowT.contains f, rowM := false, ora := fun _ => none, oraD := fun _ => none, rowTy := fun t => [25, 33].contains t, ownR := fun f => if [9, 17].contains f then some 0 else none }
theorem names_ok : ∀ (f : Nat) fn, Proofs.Tryd.prog.funcs[f]? = some fn → (fn.name == "runtime.NumGoroutine") = false := by
 intro f fn h
 have hall : (Proofs.Tryd.prog.funcs.toList.all fun fn => !(fn.name == "runtime.NumGoroutine")) = true := by kernel_rfl
 have := List.all_eq_true.1 hall fn (List.mem_of_getElem? (by simpa using h))
 simpa using this
theorem good0 {DR : Prop} : Good DR Proofs.Tryd.prog E0 := ⟨by kernel_rfl, T_ok, names_ok, (fun f F h => by cases h), (fun f F h => by cases h)⟩
def oraT1 (f : Nat) : Option (List V → Option V) := match f with
 | 24 => some decodeF
 | 56 => some ixbyteF
 | _ => none
def E1 : Env := { E0 with ora := oraT1 }
def oraT (f : Nat) : Option (List V → Option V) := match f with
 | f => oraT1 f
def oraDT (f : Nat) : Option (List D → List AObj → Option (D × List AObj)) := match f with
 | 21 => some sortF
 | 22 => some compactF
 | _ => none
def E : Env := { E0 with ora := oraT, oraD := oraDT }
theorem isd21 : Is Proofs.Tryd.prog 21 := ⟨Proofs.Tryd.f21, Proofs.Tryd.func21, by kernel_rfl, by kernel_rfl⟩
theorem orad21 : DOk False Proofs.Tryd.prog 21 sortF := sort_sound isd21 (fun blk off cap ss w h1 h2 h3 => Proofs.Tryd.slices_Sort_string blk off cap ss w h1 h2 h3) (fun p cap w => Proofs.Tryd.slices_Sort_string_none p cap w)
theorem isd22 : Is Proofs.Tryd.prog 22 := ⟨Proofs.Tryd.f22, Proofs.Tryd.func22, by kernel_rfl, by kernel_rfl⟩
theorem orad22 : DOk False Proofs.Tryd.prog 22 compactF := compact_sound isd22 (fun blk off cap zs w h1 h2 h3 => Proofs.Tryd.slices_Compact_string blk off cap zs w h1 h2 h3) (fun a cap w => Proofs.Tryd.slices_Compact_string_empty a cap w)
theorem oraD_ok : DSound False Proofs.Tryd.prog E := by
 intro f F h
 have h : oraDT f = some F := h
 unfold oraDT at h
 split at h <;> first | (cases h; done) | skip
 ·cases h; exact orad21
 ·cases h; exact orad22
theorem tabs_of_glob {S : Nat → Nat → Prop} {w : World} (h : Glob S w) : Lib.Utf8Tabs 0 1 w := by
 refine ⟨fun c hc => ?_, fun i hi => ?_⟩
 ·obtain ⟨_, v, h2, h3⟩ := h 0 firstTab rfl c (.int .u8 (Lib.firstT c)) (by simp [firstTab, hc])
  cases h3
  exact h2
 ·obtain ⟨_, v, h2, h3⟩ := h 1 acceptTab rfl (2 * i) (.int .u8 (Lib.accLo i)) (by simp [acceptTab, show 2 * i < 32 by omega, show 2 * i / 2 = i by omega])
  cases h3
  obtain ⟨_, v, g2, g3⟩ := h 1 acceptTab rfl (2 * i + 1) (.int .u8 (Lib.accHi i)) (by simp [acceptTab, show 2 * i + 1 < 32 by omega, show (2 * i + 1) / 2 = i by omega])
  cases g3
  exact ⟨h2, g2⟩
theorem is24 : Is Proofs.Tryd.prog 24 := ⟨Proofs.Tryd.f24, Proofs.Tryd.func24, by kernel_rfl, by kernel_rfl⟩
theorem ora24 : OraOk False Proofs.Tryd.prog 24 decodeF := decode_sound (fun h => h) is24 fun S w hg => ⟨0, 1, tabs_of_glob hg, fun s => Proofs.Tryd.utf8_DecodeRuneInString s w (tabs_of_glob hg)⟩
theorem is56 : Is Proofs.Tryd.prog 56 := ⟨Proofs.Tryd.f56, Proofs.Tryd.func56, by kernel_rfl, by kernel_rfl⟩
theorem ora56 : OraOk False Proofs.Tryd.prog 56 ixbyteF := ixbyte_sound is56 fun s c w => Proofs.Tryd.strings_IndexByte s c w
theorem ora1_ok : OSound False Proofs.Tryd.prog E1 := by
 intro f F h
 have h : oraT1 f = some F := h
 unfold oraT1 at h
 split at h <;> first | (cases h; done) | skip
 ·cases h; exact ora24
 ·cases h; exact ora56
theorem ora_ok : OSound False Proofs.Tryd.prog E := by
 intro f F h
 have h : oraT f = some F := h
 unfold oraT at h
 exact ora1_ok f F h
theorem good : Good False Proofs.Tryd.prog E := ⟨(good0 (DR := False)).mixed, T_ok, names_ok, ora_ok, oraD_ok⟩
structure S34 where
 fBase : ByteArray
 fForm : ByteArray
 fTags : (List ByteArray)
 fNext : Int
 fWeight : Int
def e34 : S34 → V := fun x => (.agg [(.str x.fBase), (.str x.fForm), (vP eS x.fTags), (vI x.fNext), (vI x.fWeight)])
structure S37 where
 fName : ByteArray
 fItems : (List S34)
def e37 : S37 → V := fun x => (.agg [(.str x.fName), (vP e34 x.fItems)])
structure S23 where
 fClasses : (List S37)
def e23 : S23 → V := fun x => (.agg [(vP e37 x.fClasses)])
structure S40 where
 fFrom : Int
 fTo : Int
 fIn : Int
 fOut : Int
 fWeight : Int
def e40 : S40 → V := fun x => (.agg [(vI x.fFrom), (vI x.fTo), (vI x.fIn), (vI x.fOut), (vI x.fWeight)])
structure S42 where
 fState : Int
 fWeight : Int
def e42 : S42 → V := fun x => (.agg [(vI x.fState), (vI x.fWeight)])
structure S27 where
 fStates : Int
 fArcs : (List S40)
 fFinals : (List S42)
def e27 : S27 → V := fun x => (.agg [(vI x.fStates), (vP e40 x.fArcs), (vP e42 x.fFinals)])
structure S29 where
 fCode : Int
 fIndex : Int
def e29 : S29 → V := fun x => (.agg [(vI x.fCode), (vI x.fIndex)])
end Go.Abs
