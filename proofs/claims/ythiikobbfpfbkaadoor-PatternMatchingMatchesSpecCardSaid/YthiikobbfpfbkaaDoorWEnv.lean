import Derived.Test.YthiikobbfpfbkaaDoorAbsW
import Derived.Test.YthiikobbfpfbkaaDoorAbsL
import Derived.Test.YthiikobbfpfbkaaDoorAbsN
import Derived.Test.YthiikobbfpfbkaaDoorAbsU
import Derived.Test.YthiikobbfpfbkaaDoorShelf
import Derived.Test.YthiikobbfpfbkaaDoorAbsRw
import Derived.Test.YthiikobbfpfbkaaDoorAbsPl
import Derived.Test.YthiikobbfpfbkaaDoorAbsLc
import Derived.Test.YthiikobbfpfbkaaDoorAbsCe
import Derived.Test.YthiikobbfpfbkaaDoorProg
namespace Go.Abs
set_option linter.unusedVariables false
set_option maxRecDepth 100000
theorem Ops.hv {X : Cx} {ops : List Oper} {i : Nat} {σ : St} {Q : St → Prop} (P : (Nat → St → Prop) → Prop) (h1 : P fun j τ => Ops X ops j τ Q) (h2 : (P fun j τ => Ops X ops j τ Q) → Ops X ops i σ Q) : Ops X ops i σ Q := h2 h1
def ti2 : TI := ⟨.int .i64, 1, 8, .int .i64 (0), true⟩
def ti3 : TI := ⟨.int .i64, 1, 8, .int .i64 (0), true⟩
def ti4 : TI := ⟨.bool, 1, 1, .bool false, true⟩
def ti5 : TI := ⟨.int .u8, 1, 1, .int .u8 (0), true⟩
def ti9 : TI := ⟨.str, 1, 16, .str ByteArray.empty, true⟩
def ti21 : TI := ⟨.int .i32, 1, 4, .int .i32 (0), true⟩
def ti22 : TI := ⟨.slice 3, 1, 24, .sl .nil [], true⟩
def ti23 : TI := ⟨.slice 25, 1, 24, .sl .nil [], true⟩
def ti25 : TI := ⟨.struct [(0, 3), (1, 22), (2, 23), (3, 3), (4, 3)], 5, 72, .agg [.int .i64 (0), .sl .nil [], .sl .nil [], .int .i64 (0), .int .i64 (0)], true⟩
def ti28 : TI := ⟨.struct [(0, 3), (1, 3)], 2, 16, .agg [.int .i64 (0), .int .i64 (0)], true⟩
def ti44 : TI := ⟨.ptr 46, 1, 8, .nilptr, true⟩
def ti46 : TI := ⟨.struct [(0, 3)], 1, 8, .agg [.int .i64 (0)], true⟩
def ti48 : TI := ⟨.slice 5, 1, 24, .sl .nil [], true⟩
def ti53 : TI := ⟨.struct [(0, 25), (5, 3)], 6, 80, .agg [.int .i64 (0), .sl .nil [], .sl .nil [], .int .i64 (0), .int .i64 (0), .int .i64 (0)], true⟩
def ti54 : TI := ⟨.slice 53, 1, 24, .sl .nil [], true⟩
def ti57 : TI := ⟨.ptr 59, 1, 8, .nilptr, true⟩
def ti59 : TI := ⟨.struct [(0, 22), (1, 3)], 2, 32, .agg [.sl .nil [], .int .i64 (0)], true⟩
def ti67 : TI := ⟨.slice 4, 1, 24, .sl .nil [], true⟩
def ti69 : TI := ⟨.slice 67, 1, 24, .sl .nil [], true⟩
def ti88 : TI := ⟨.slice 69, 1, 24, .sl .nil [], true⟩
def ti96 : TI := ⟨.int .u64, 1, 8, .int .u64 (0), true⟩
def ti98 : TI := ⟨.int .u32, 1, 4, .int .u32 (0), true⟩
def ti99 : TI := ⟨.int .u64, 1, 8, .int .u64 (0), true⟩
def ti122 : TI := ⟨.int .i64, 1, 8, .int .i64 (0), true⟩
def ti128 : TI := ⟨.int .u64, 1, 8, .int .u64 (0), true⟩
def ti132 : TI := ⟨.ptr 3, 1, 8, .nilptr, true⟩
def ti134 : TI := ⟨.ptr 128, 1, 8, .nilptr, true⟩
def T (t : Nat) : Option TI := match t with
  | 2 => some ti2
  | 3 => some ti3
  | 4 => some ti4
  | 5 => some ti5
  | 9 => some ti9
  | 21 => some ti21
  | 22 => some ti22
  | 23 => some ti23
  | 25 => some ti25
  | 28 => some ti28
  | 44 => some ti44
  | 46 => some ti46
  | 48 => some ti48
  | 53 => some ti53
  | 54 => some ti54
  | 57 => some ti57
  | 59 => some ti59
  | 67 => some ti67
  | 69 => some ti69
  | 88 => some ti88
  | 96 => some ti96
  | 98 => some ti98
  | 99 => some ti99
  | 122 => some ti122
  | 128 => some ti128
  | 132 => some ti132
  | 134 => some ti134
  | _ => none
theorem T_ok : ∀ t i, T t = some i → tiOf Proofs.Tryd.prog t = some i := by
  intro t i h
  unfold T at h
  split at h <;> first | (cases h; kernel_rfl) | (cases h; done)
def loopT (f k : Nat) : List Nat := match f, k with
  | 54, 3 => [0, 1, 4, 5, 6, 7, 8]
  | 16, 7 => [1, 2, 4, 5, 19, 20, 21]
  | 21, 21 => [0, 2, 4, 6, 7, 79, 80, 81]
  | 21, 36 => [0, 2, 6, 152, 153, 154]
  | 12, 3 => [2, 3, 4]
  | 12, 16 => [2, 3, 4, 5, 8]
  | 26, 19 => [1, 2, 62, 63, 64]
  | 17, 4 => [1, 4, 12, 13, 14]
  | 18, 3 => [1, 2, 3, 7, 8, 9]
  | 19, 8 => [1, 4, 22, 23, 24]
  | 19, 18 => [1, 4, 43, 44, 45]
  | 35, 4 => [0, 1, 4, 5]
  | 36, 6 => [1, 2, 3, 4, 8, 9]
  | 7, 13 => [2, 3, 4, 6, 7, 9, 11, 13, 15, 17, 19, 20]
  | 33, 4 => [1, 2, 4, 5, 6, 31, 32]
  | 33, 10 => [1, 2, 4, 5, 6, 8, 43, 44, 45]
  | 33, 16 => [2, 4, 6, 8, 59, 60]
  | 33, 19 => [2, 4, 6, 8, 19, 59, 60, 67, 68]
  | 33, 23 => [2, 4, 6, 8, 19, 20, 21, 22, 59, 60, 67, 68, 81, 82, 83]
  | 33, 40 => [2, 4, 6, 145, 146, 147]
  | 33, 47 => [4, 6, 171, 172, 173]
  | 33, 54 => [2, 4, 5, 6, 8, 186, 187]
  | 33, 62 => [4, 6, 8, 16, 205, 206]
  | 33, 65 => [4, 6, 8, 16, 205, 206, 214, 215]
  | 33, 68 => [4, 6, 8, 16, 17, 205, 206, 214, 215, 222, 223]
  | 27, 5 => [0, 2, 3, 4, 5]
  | 28, 2 => [0, 1, 4, 5, 6]
  | 45, 2 => [0, 1, 4, 5, 6, 7]
  | 61, 2 => [0, 1, 4, 5, 6]
  | 67, 2 => [0, 4, 5, 6, 7]
  | 74, 16 => [0, 4, 5, 8]
  | 86, 2 => [0, 1, 2, 3, 8, 9]
  | 88, 1 => [0, 1, 2, 6]
  | 88, 4 => [0, 1, 2, 6, 7]
  | 89, 4 => [0, 6, 7, 8, 9]
  | 89, 8 => [0, 6, 7, 10]
  | 97, 1 => [0, 2, 3, 8]
  | 90, 5 => [0, 1, 6, 7, 8, 9]
  | 92, 2 => [0, 6, 7]
  | 93, 3 => [0, 1, 2, 6, 7, 8]
  | 93, 5 => [0, 1, 2, 6, 7, 8]
  | 93, 14 => [0, 1, 2, 6, 7, 8, 9]
  | 93, 20 => [0, 1, 2, 6, 7, 8, 10]
  | 94, 3 => [0, 1, 8, 9, 10]
  | 94, 5 => [0, 1, 8, 9, 10]
  | 95, 3 => [0, 1, 8, 9, 10, 11]
  | 95, 5 => [0, 1, 8, 9, 10, 11]
  | 95, 13 => [0, 1, 8, 9, 10, 11]
  | 95, 15 => [0, 1, 8, 9, 10, 11]
  | 83, 4 => [0, 2, 3]
  | 83, 9 => [0, 2, 3, 4, 5]
  | 22, 11 => [0, 6, 47, 48, 49]
  | 22, 18 => [0, 6, 63, 64, 65]
  | 22, 25 => [0, 6, 77, 78, 79]
  | 72, 1 => [0, 1, 4]
  | 73, 11 => [0, 1, 3, 4, 10, 11, 12, 13, 14, 15, 16]
  | 73, 18 => [0, 1, 3, 4, 10, 11, 12, 13, 17]
  | 53, 3 => [0, 2, 3, 9, 10]
  | 55, 3 => [0, 1, 4, 5, 13, 14]
  | 55, 7 => [0, 1, 4, 5, 6, 13, 14, 24, 25]
  | 55, 11 => [0, 1, 4, 5, 6, 7, 13, 14, 24, 25, 36, 37]
  | _, _ => []
def condT (f k : Nat) : List Nat := match f, k with
  | 54, 15 => [0, 1, 4, 5, 6, 7, 8]
  | 54, 27 => [0, 1, 4, 5, 6, 7, 8]
  | 5, 9 => [1, 2, 4]
  | 5, 20 => [1, 2, 4, 5, 6, 7]
  | 5, 25 => [1, 2, 4, 5, 6]
  | 5, 40 => [1, 2, 4, 5, 6]
  | 16, 13 => [1, 2, 4, 5]
  | 16, 17 => [1, 2, 4, 5]
  | 16, 22 => [1, 2, 4, 5, 19, 20, 21]
  | 16, 30 => [1, 2, 4, 5, 19, 20, 21]
  | 21, 34 => [0, 2, 4, 6, 7]
  | 21, 44 => [0, 2, 4, 6, 7, 8, 9, 41, 44]
  | 21, 47 => [0, 2, 4, 6, 7, 8, 9, 41, 47]
  | 21, 54 => [0, 2, 4, 6, 7, 8, 9]
  | 21, 56 => [0, 2, 4, 6, 7, 8, 9, 56]
  | 21, 75 => [0, 2, 4, 6, 7]
  | 21, 82 => [0, 2, 4, 6, 7, 79, 80, 81]
  | 21, 88 => [0, 2, 4, 6, 7, 10, 11, 79, 80, 81]
  | 21, 102 => [0, 2, 4, 6, 7, 79, 80, 81]
  | 21, 108 => [0, 2, 4, 6]
  | 21, 126 => [0, 2, 4, 6, 7]
  | 21, 138 => [0, 2, 4, 6]
  | 21, 148 => [0, 2, 4, 6]
  | 21, 155 => [0, 2, 6, 152, 153, 154]
  | 21, 165 => [0, 2, 6, 152, 153, 154]
  | 12, 14 => [2, 3, 4]
  | 12, 34 => [2, 3, 4, 5]
  | 12, 41 => [2, 3, 4, 5]
  | 12, 50 => [2, 3, 4, 5, 7]
  | 12, 54 => [2, 3, 4, 5, 8]
  | 26, 12 => [1, 2, 3, 4, 11, 12]
  | 26, 17 => [1, 2, 3, 4, 11, 17]
  | 26, 22 => [1, 2, 4]
  | 26, 26 => [1, 2, 3, 4, 26]
  | 26, 60 => [1, 2]
  | 26, 65 => [1, 2, 62, 63, 64]
  | 26, 75 => [1, 2, 5, 6, 62, 63, 64]
  | 26, 87 => [1, 2, 62, 63, 64]
  | 26, 91 => [1, 2]
  | 26, 99 => [2]
  | 26, 117 => [1, 2]
  | 26, 127 => [2]
  | 17, 9 => [0, 1, 4]
  | 17, 15 => [1, 4, 12, 13, 14]
  | 17, 23 => [1, 4, 12, 13, 14]
  | 18, 10 => [1, 2, 3, 7, 8, 9]
  | 18, 20 => [2, 3]
  | 18, 23 => [2, 3]
  | 18, 28 => [2, 3]
  | 19, 11 => [1, 2, 4]
  | 19, 16 => [1, 2, 4]
  | 19, 20 => [1, 2, 4]
  | 19, 25 => [1, 4, 22, 23, 24]
  | 19, 32 => [1, 4, 22, 23, 24]
  | 19, 34 => [1, 2, 4]
  | 19, 40 => [1, 2, 4]
  | 19, 46 => [1, 4, 43, 44, 45]
  | 19, 51 => [1, 4, 43, 44, 45]
  | 19, 53 => [1, 2, 4]
  | 19, 69 => [1, 2, 4]
  | 35, 8 => [0, 1, 4]
  | 35, 17 => [0, 1, 4, 5]
  | 35, 34 => [0, 1, 4, 5]
  | 36, 13 => [1, 2, 3, 4, 8]
  | 36, 21 => [1, 2, 3, 4, 8]
  | 36, 25 => [1, 2, 3, 4, 8, 9]
  | 36, 30 => [1, 2, 3, 4, 8, 9, 10]
  | 36, 47 => [1, 2, 3, 4, 8, 9]
  | 7, 26 => [2, 3, 4, 6]
  | 7, 98 => [2, 3, 4, 6, 7, 9, 11, 13, 15, 17]
  | 7, 102 => [2, 3, 4, 6, 7, 9, 11, 13, 15, 17, 19, 20]
  | 7, 128 => [2, 3, 4, 6, 7, 9, 11, 13, 15, 17, 19, 20, 21, 23]
  | 33, 33 => [1, 2, 4, 5, 6, 31, 32]
  | 33, 46 => [1, 2, 4, 5, 6, 8, 43, 44, 45]
  | 33, 61 => [2, 4, 6, 8, 59, 60]
  | 33, 69 => [2, 4, 6, 8, 19, 59, 60, 67, 68]
  | 33, 84 => [2, 4, 6, 8, 19, 20, 21, 22, 59, 60, 67, 68, 81, 82, 83]
  | 33, 100 => [2, 4, 6, 8, 19, 59, 60, 67, 68]
  | 33, 112 => [2, 4, 6, 8, 19, 59, 60, 67, 68]
  | 33, 124 => [2, 4, 6, 8, 19, 59, 60, 67, 68]
  | 33, 139 => [4, 6]
  | 33, 143 => [4, 6]
  | 33, 148 => [2, 4, 6, 145, 146, 147]
  | 33, 167 => [4, 6]
  | 33, 174 => [4, 6, 171, 172, 173]
  | 33, 181 => [4, 6]
  | 33, 188 => [2, 4, 5, 6, 8, 186, 187]
  | 33, 202 => [4, 6, 8, 15]
  | 33, 207 => [4, 6, 8, 16, 205, 206]
  | 33, 216 => [4, 6, 8, 16, 205, 206, 214, 215]
  | 33, 224 => [4, 6, 8, 16, 17, 205, 206, 214, 215, 222, 223]
  | 13, 17 => [2, 3, 4]
  | 13, 38 => [2, 3, 7]
  | 13, 49 => [2, 3, 7]
  | 27, 10 => [0, 2, 3]
  | 27, 15 => [0, 2, 3, 4, 5]
  | 27, 28 => [0, 2, 3, 4, 5, 6, 7]
  | 28, 16 => [0, 1, 4, 5, 6, 7]
  | 28, 24 => [0, 1, 4, 5, 6]
  | 28, 34 => [4, 5, 6]
  | 45, 24 => [0, 1, 4, 5, 6]
  | 45, 26 => [0, 1, 4, 5, 6, 8]
  | 61, 47 => [0, 1, 4, 5, 6]
  | 61, 55 => [0, 1, 4, 5, 6, 7]
  | 61, 63 => [4, 5, 6]
  | 61, 66 => [4, 5, 6]
  | 67, 32 => [0, 4, 5, 6, 7]
  | 67, 54 => [0, 4, 5, 6, 7, 8]
  | 67, 57 => [0, 4, 5, 6, 7, 8]
  | 67, 60 => [0, 4, 5, 6, 7, 8]
  | 67, 69 => [0, 4, 5, 6, 7, 8]
  | 67, 73 => [0, 4, 5, 6, 7, 8]
  | 67, 84 => [0, 4, 5, 6, 7, 8]
  | 67, 92 => [0, 4, 5, 6, 7, 8]
  | 67, 96 => [0, 4, 5, 6, 7, 8]
  | 74, 13 => [0, 4, 5]
  | 74, 17 => [0, 1, 4, 5]
  | 74, 27 => [0, 1, 4, 5]
  | 74, 49 => [0, 4, 5, 6]
  | 74, 59 => [0, 4, 5]
  | 74, 71 => [0, 4, 5, 8]
  | 74, 78 => [0, 4, 5, 8, 9]
  | 74, 86 => [0, 4, 5, 8]
  | 81, 5 => [0, 2, 3]
  | 81, 22 => [0, 2, 3]
  | 81, 60 => [0, 2, 3]
  | 81, 71 => [0, 2, 3]
  | 87, 0 => [0, 2]
  | 96, 4 => [0, 2]
  | 96, 8 => [0, 2]
  | 77, 4 => [0, 2]
  | 77, 8 => [0, 2]
  | 77, 14 => [0, 2]
  | 86, 23 => [0, 1, 2, 3, 8, 9, 10]
  | 86, 29 => [0, 1, 2, 3, 8, 9, 10]
  | 86, 35 => [0, 1, 2, 3, 8, 9, 10]
  | 86, 50 => [0, 1, 2, 3, 8, 9, 10, 11, 12]
  | 86, 68 => [0, 1, 2, 3, 8, 9, 10, 11]
  | 86, 72 => [0, 1, 2, 3, 8, 9, 10, 11]
  | 86, 87 => [0, 1, 2, 3, 10, 11]
  | 86, 113 => [0, 1, 2, 3, 8, 9]
  | 88, 12 => [0, 1, 2, 6]
  | 88, 30 => [0, 1, 2, 6, 7]
  | 89, 19 => [0, 6, 7, 8, 9]
  | 89, 30 => [0, 6, 7, 10]
  | 97, 16 => [0, 2, 3, 8, 9]
  | 97, 36 => [0, 2, 3, 8, 9]
  | 97, 52 => [0, 2, 3, 8, 9]
  | 90, 33 => [0, 1, 6, 7, 8, 9]
  | 90, 43 => [0, 1, 6, 7, 8, 9, 10]
  | 91, 32 => [6, 7, 9, 11]
  | 91, 34 => [0, 6, 7, 9, 10, 11, 12]
  | 91, 51 => [6, 7]
  | 91, 54 => [6, 7]
  | 102, 18 => [1, 2, 8, 9]
  | 92, 13 => [0, 6, 7]
  | 93, 14 => [0, 1, 2, 6, 7, 8]
  | 93, 32 => [0, 1, 2, 6, 7, 8]
  | 93, 37 => [0, 1, 2, 6, 7, 8]
  | 93, 41 => [0, 1, 2, 6, 7, 8]
  | 93, 61 => [0, 1, 2, 6, 7, 8]
  | 93, 65 => [0, 1, 2, 6, 7, 8, 9]
  | 93, 78 => [0, 1, 2, 6, 7, 8, 9]
  | 93, 98 => [0, 1, 2, 6, 7, 8]
  | 93, 103 => [0, 1, 2, 6, 7, 8, 10]
  | 93, 116 => [0, 1, 2, 6, 7, 8, 10]
  | 94, 43 => [0, 1, 8, 9, 10]
  | 94, 59 => [0, 1, 8, 9, 10]
  | 94, 64 => [0, 1, 8, 9, 10]
  | 95, 43 => [0, 1, 8, 9, 10, 11]
  | 95, 60 => [0, 1, 8, 9, 10, 11]
  | 95, 65 => [0, 1, 8, 9, 10, 11]
  | 95, 112 => [0, 1, 8, 9, 10, 11]
  | 95, 129 => [0, 1, 8, 9, 10, 11]
  | 95, 134 => [0, 1, 8, 9, 10, 11]
  | 83, 8 => [0, 2]
  | 83, 13 => [0, 2, 3]
  | 83, 25 => [0, 2, 3]
  | 83, 32 => [0, 2, 3, 4, 5]
  | 83, 44 => [0, 2, 3, 4, 5]
  | 75, 39 => [0, 2, 3]
  | 10, 10 => [1, 2, 3]
  | 10, 16 => [2, 3, 5]
  | 22, 17 => [0, 4, 6]
  | 22, 27 => [0, 4, 6]
  | 22, 31 => [0, 4, 6]
  | 22, 36 => [0, 4, 6]
  | 22, 50 => [0, 6, 47, 48, 49]
  | 22, 60 => [0, 4, 6]
  | 22, 66 => [0, 6, 63, 64, 65]
  | 22, 74 => [0, 4, 6]
  | 22, 80 => [0, 6, 77, 78, 79]
  | 22, 85 => [0, 6, 12, 77, 78, 79]
  | 22, 94 => [0, 4, 6, 94]
  | 22, 105 => [0, 4, 6]
  | 22, 124 => [0, 4, 6]
  | 22, 136 => [0, 4, 6]
  | 22, 148 => [0, 4, 6]
  | 22, 172 => [0, 6]
  | 38, 4 => [2]
  | 38, 6 => [2, 3, 6]
  | 38, 9 => [2]
  | 38, 11 => [2]
  | 39, 12 => [0, 1, 4]
  | 57, 7 => [0, 1, 4]
  | 65, 11 => [4]
  | 65, 25 => [0, 1, 4, 5, 25]
  | 65, 50 => [4]
  | 58, 11 => [0, 2, 6, 7]
  | 66, 10 => [0, 1, 2, 6]
  | 66, 12 => [0, 1, 6]
  | 70, 4 => [0, 2]
  | 78, 3 => [2]
  | 72, 20 => [0, 1, 4]
  | 72, 99 => [0, 4, 12]
  | 72, 139 => [0, 4, 12]
  | 73, 28 => [0, 1, 2, 3, 4, 10, 11]
  | 73, 30 => [0, 1, 2, 3, 4, 10, 11, 12, 13]
  | 73, 34 => [0, 3, 4, 10, 11, 12, 13]
  | 73, 46 => [0, 1, 3, 4, 10, 11, 12, 13, 14, 15, 16]
  | 73, 68 => [0, 1, 3, 4, 10, 11, 12, 13, 17]
  | 73, 89 => [0, 4, 10, 11, 12, 13]
  | 73, 94 => [10, 11, 12, 13]
  | 80, 0 => [0, 2]
  | 84, 4 => [0, 2]
  | 85, 4 => [0, 2]
  | 53, 11 => [0, 2, 3, 9, 10]
  | 55, 15 => [0, 1, 4, 5, 13, 14]
  | 55, 26 => [0, 1, 4, 5, 6, 13, 14, 24, 25]
  | 55, 34 => [0, 1, 4, 5, 6, 13, 14, 24, 25]
  | 55, 38 => [0, 1, 4, 5, 6, 7, 13, 14, 24, 25, 36, 37]
  | _, _ => []
def blkT (f k : Nat) : List Nat := match f, k with
  | 54, 0 => [0, 1, 4, 5, 6, 7]
  | 54, 1 => [0, 1, 4, 5, 6, 7, 8]
  | 16, 0 => [1, 2, 4, 5]
  | 16, 1 => [1, 2, 4, 5, 19, 20, 21]
  | 21, 0 => [0, 2, 4, 6, 7, 8, 9]
  | 21, 1 => [0, 2, 4, 6, 7]
  | 21, 2 => [0, 2, 4, 6, 7, 79, 80, 81]
  | 21, 3 => [6]
  | 21, 4 => [0, 2, 6, 152, 153, 154]
  | 12, 0 => [2]
  | 12, 1 => [2, 3, 4]
  | 12, 2 => [2, 3, 4]
  | 12, 3 => [2, 3, 4, 5, 8]
  | 26, 0 => [1, 2, 4]
  | 26, 1 => [1, 2]
  | 26, 2 => [1, 2, 62, 63, 64]
  | 17, 0 => [4]
  | 17, 1 => [1, 4, 12, 13, 14]
  | 18, 0 => [1, 2, 3]
  | 18, 1 => [1, 2, 3, 7, 8, 9]
  | 19, 0 => [1, 2, 4]
  | 19, 1 => [4]
  | 19, 2 => [1, 4, 22, 23, 24]
  | 19, 3 => [4]
  | 19, 4 => [1, 4, 43, 44, 45]
  | 35, 0 => [4]
  | 35, 1 => [0, 1, 4, 5]
  | 36, 0 => [8]
  | 36, 1 => [1, 2, 3, 4, 8, 9]
  | 7, 0 => [6, 7, 9, 11, 13, 15, 17, 19]
  | 7, 1 => [2, 3, 4, 6, 7, 9, 11, 13, 15, 17, 19, 20]
  | 33, 0 => [1, 2, 4, 5, 6]
  | 33, 1 => [1, 2, 4, 5, 6, 31, 32]
  | 33, 2 => [1, 2, 4, 5, 6, 8]
  | 33, 3 => [1, 2, 4, 5, 6, 8, 43, 44, 45]
  | 33, 4 => [4, 6]
  | 33, 5 => [4, 6]
  | 33, 6 => [2, 4, 6, 8, 59, 60]
  | 33, 7 => [2, 4, 6, 8, 59, 60]
  | 33, 8 => [2, 4, 6, 8, 19, 59, 60, 67, 68]
  | 33, 9 => [2, 4, 6, 8, 19, 20, 21, 22, 59, 60, 67, 68]
  | 33, 10 => [2, 4, 6, 8, 19, 20, 21, 22, 59, 60, 67, 68, 81, 82, 83]
  | 33, 11 => [2, 4, 6, 8, 19, 59, 60, 67, 68]
  | 33, 12 => [4, 6]
  | 33, 13 => [2, 4, 6, 145, 146, 147]
  | 33, 14 => [4, 6]
  | 33, 15 => [4, 6, 171, 172, 173]
  | 33, 16 => [2, 4, 5, 6, 8]
  | 33, 17 => [2, 4, 5, 6, 8, 186, 187]
  | 33, 18 => [4, 6]
  | 33, 19 => [4, 6, 8, 16, 205, 206]
  | 33, 20 => [4, 6, 8, 16, 205, 206]
  | 33, 21 => [4, 6, 8, 16, 205, 206, 214, 215]
  | 33, 22 => [4, 6, 8, 16, 205, 206, 214, 215]
  | 33, 23 => [4, 6, 8, 16, 17, 205, 206, 214, 215, 222, 223]
  | 27, 0 => [2, 3, 4]
  | 27, 1 => [0, 2, 3, 4, 5]
  | 28, 0 => [4, 5, 6]
  | 28, 1 => [0, 1, 4, 5, 6]
  | 45, 0 => [4, 5, 6, 7]
  | 45, 1 => [0, 1, 4, 5, 6, 7]
  | 61, 0 => [4, 5, 6]
  | 61, 1 => [0, 1, 4, 5, 6]
  | 61, 2 => [4, 5, 6]
  | 67, 0 => [4, 5, 6, 7]
  | 67, 1 => [0, 4, 5, 6, 7]
  | 67, 2 => [0, 4, 5, 6, 7, 8]
  | 74, 0 => [0, 4, 5]
  | 74, 1 => [0, 4, 5, 8]
  | 74, 2 => [0, 4, 5, 8]
  | 86, 1 => [0, 1, 2, 3, 8, 9]
  | 88, 1 => [0, 1, 2, 6]
  | 88, 2 => [0, 1, 2, 6]
  | 88, 3 => [0, 1, 2, 6, 7]
  | 89, 0 => [0, 6, 7, 8]
  | 89, 1 => [0, 6, 7, 8, 9]
  | 89, 3 => [0, 6, 7, 10]
  | 97, 1 => [0, 2, 3, 8]
  | 90, 1 => [0, 1, 6, 7, 8, 9]
  | 91, 0 => [6, 7]
  | 92, 1 => [0, 6, 7]
  | 93, 0 => [6]
  | 93, 1 => [0, 1, 2, 6, 7, 8]
  | 93, 2 => [0, 1, 2, 6, 7, 8]
  | 93, 3 => [0, 1, 2, 6, 7, 8]
  | 93, 4 => [0, 1, 2, 6, 7, 8]
  | 93, 5 => [0, 1, 2, 6, 7, 8, 9]
  | 93, 6 => [0, 1, 2, 6, 7, 8]
  | 93, 7 => [0, 1, 2, 6, 7, 8, 10]
  | 94, 0 => [8, 9]
  | 94, 1 => [0, 1, 8, 9, 10]
  | 94, 2 => [0, 1, 8, 9, 10]
  | 94, 3 => [0, 1, 8, 9, 10]
  | 94, 4 => [0, 1, 8, 9, 10]
  | 94, 5 => [0, 1, 8, 9, 10]
  | 95, 0 => [0, 1, 8, 9, 10, 11]
  | 95, 1 => [0, 1, 8, 9, 10, 11]
  | 95, 2 => [0, 1, 8, 9, 10, 11]
  | 95, 3 => [0, 1, 8, 9, 10, 11]
  | 95, 4 => [0, 1, 8, 9, 11]
  | 95, 5 => [0, 1, 8, 9, 10, 11]
  | 95, 6 => [0, 1, 8, 9, 10, 11]
  | 95, 7 => [0, 1, 8, 9, 10, 11]
  | 95, 8 => [0, 1, 8, 9, 10, 11]
  | 95, 9 => [0, 1, 8, 9, 10, 11]
  | 83, 0 => [0, 2]
  | 83, 1 => [0, 2, 3]
  | 83, 2 => [0, 2, 3]
  | 83, 3 => [0, 2, 3, 4, 5]
  | 22, 0 => [0, 4, 6]
  | 22, 1 => [0, 6]
  | 22, 2 => [0, 6, 47, 48, 49]
  | 22, 3 => [0, 6]
  | 22, 4 => [0, 6, 63, 64, 65]
  | 22, 5 => [0, 6]
  | 22, 6 => [0, 6, 77, 78, 79]
  | 22, 7 => [0, 4, 6]
  | 38, 0 => [2]
  | 65, 0 => [4]
  | 72, 0 => [0, 1, 4]
  | 72, 1 => [0, 1, 4]
  | 73, 0 => [0, 1, 3, 4, 10, 11, 12, 13]
  | 73, 1 => [0, 1, 3, 4, 10, 11, 12, 13, 14, 15, 16]
  | 73, 2 => [0, 1, 3, 4, 10, 11, 12, 13]
  | 73, 3 => [0, 1, 3, 4, 10, 11, 12, 13, 17]
  | 53, 0 => [2, 3]
  | 53, 1 => [0, 2, 3, 9, 10]
  | 55, 0 => [4, 5]
  | 55, 1 => [0, 1, 4, 5, 13, 14]
  | 55, 2 => [0, 1, 4, 5, 13, 14]
  | 55, 3 => [0, 1, 4, 5, 6, 13, 14, 24, 25]
  | 55, 4 => [0, 1, 4, 5, 6, 13, 14, 24, 25]
  | 55, 5 => [0, 1, 4, 5, 6, 7, 13, 14, 24, 25, 36, 37]
  | _, _ => []
def accT (f : Nat) : List Nat := match f with
  | 12 => [3]
  | 22 => [0, 6]
  | 27 => [4]
  | 28 => [6]
  | 33 => [8]
  | 39 => [0]
  | 57 => [4]
  | 58 => [0]
  | 61 => [6]
  | 65 => [4]
  | 66 => [6]
  | 73 => [10]
  | 74 => [8]
  | _ => []
def ownT : List Nat := [82, 94, 97, 99, 92, 101, 86, 89, 100, 83, 88, 90, 95, 102, 93, 91, 21, 22, 28, 39, 40, 45, 46, 57, 58, 61, 65, 66, 67, 74, 75, 81, 53, 55]
def rowT : List Nat := [82, 94, 97, 99, 92, 101, 74, 86, 89, 100, 83, 12, 88, 90, 95, 102, 93, 91]
def E0 : Env := { T := T, pureF := fun f => !ownT.contains f, keep := fun f => ⟨loopT f, condT f, blkT f⟩, acc := accT, rowF := fun f => rowT.contains f, rowM := false, ora := fun _ => none, oraD := fun _ => none, rowTy := fun t => [22, 54].contains t, bldTy := fun t => [54].contains t, lend := fun f => if [21, 28, 45, 46, 61, 67, 74, 75, 81].contains f then some {} else if [22, 39, 40, 57, 58, 65, 66].contains f then some ⟨[0], some 0, true⟩ else none }
theorem names_ok : ∀ (f : Nat) fn, Proofs.Tryd.prog.funcs[f]? = some fn → (fn.name == "runtime.NumGoroutine") = false := by
  intro f fn h
  have hall : (Proofs.Tryd.prog.funcs.toList.all fun fn => !(fn.name == "runtime.NumGoroutine")) = true := by kernel_rfl
  have := List.all_eq_true.1 hall fn (List.mem_of_getElem? (by simpa using h))
  simpa using this
theorem good0 {DR : Prop} : Good DR Proofs.Tryd.prog E0 := ⟨by kernel_rfl, T_ok, names_ok, (fun f F h => by cases h), (fun f F h => by cases h)⟩
def oraT1 (f : Nat) : Option (List V → Option V) := match f with
  | 44 => some decodeF
  | 56 => some ixbyteF
  | _ => none
def E1 : Env := { E0 with ora := oraT1 }
def oraT (f : Nat) : Option (List V → Option V) := match f with
  | 8 => some trueF
  | f => oraT1 f
def E : Env := { E0 with ora := oraT }
theorem tabs_of_glob {S : Nat → Nat → Prop} {w : World} (h : Glob S w) : Lib.Utf8Tabs 0 1 w := by
  refine ⟨fun c hc => ?_, fun i hi => ?_⟩
  · obtain ⟨_, v, h2, h3⟩ := h 0 firstTab rfl c (.int .u8 (Lib.firstT c)) (by simp [firstTab, hc])
    cases h3
    exact h2
  · obtain ⟨_, v, h2, h3⟩ := h 1 acceptTab rfl (2 * i) (.int .u8 (Lib.accLo i)) (by simp [acceptTab, show 2 * i < 32 by omega, show 2 * i / 2 = i by omega])
    cases h3
    obtain ⟨_, v, g2, g3⟩ := h 1 acceptTab rfl (2 * i + 1) (.int .u8 (Lib.accHi i)) (by simp [acceptTab, show 2 * i + 1 < 32 by omega, show (2 * i + 1) / 2 = i by omega])
    cases g3
    exact ⟨h2, g2⟩
theorem is44 : Is Proofs.Tryd.prog 44 := ⟨Proofs.Tryd.f44, Proofs.Tryd.func44, by kernel_rfl, by kernel_rfl⟩
theorem ora44 : OraOk False Proofs.Tryd.prog 44 decodeF := decode_sound (fun h => h) is44 fun S w hg => ⟨0, 1, tabs_of_glob hg, fun s => Proofs.Tryd.utf8_DecodeRuneInString s w (tabs_of_glob hg)⟩
theorem is56 : Is Proofs.Tryd.prog 56 := ⟨Proofs.Tryd.f56, Proofs.Tryd.func56, by kernel_rfl, by kernel_rfl⟩
theorem ora56 : OraOk False Proofs.Tryd.prog 56 ixbyteF := ixbyte_sound is56 fun s c w => Proofs.Tryd.strings_IndexByte s c w
theorem ora1_ok : OSound False Proofs.Tryd.prog E1 := by
  intro f F h
  have h : oraT1 f = some F := h
  unfold oraT1 at h
  split at h <;> first | (cases h; done) | skip
  · cases h; exact ora44
  · cases h; exact ora56
theorem good1 : Good False Proofs.Tryd.prog E1 := ⟨(good0 (DR := False)).mixed, T_ok, names_ok, ora1_ok, (fun f F h => by cases h)⟩
def c8L : List Nat := [9,10,16,21,22,23,27,28,33,37,38,39,43,44,45,46,53,54,55,56,57,60,61,62,63,64,67,68,74,75,81]
def c8i (n : Int) : V := .int .i64 n
def c8S : V := .str ⟨#[97, 42, 124, 98]⟩
def c8w (c : Int) : V := .sl .plain [c8i c, c8i c]
def c8set (c : Int) : V := .agg [c8i 2, .sl .plain [c8i c], .sl .plain [], c8i 0, c8i 0]
def c8rep : V := .agg [c8i 5, .sl .plain [], .sl .plain [c8set 97], c8i 0, c8i (-1)]
def c8pat : V := .agg [c8i 4, .sl .plain [], .sl .plain [c8rep, c8set 98], c8i 0, c8i 0]
def c8m (l : List (List Bool)) : V := .sl .plain (l.map fun r => .sl .plain (r.map .bool))
def c8f : V := .agg [c8i 0, c8i 0]
def c8yes : V := c8m [[false, true, false], [false, false, true], [false, false, false]]
def c8no : V := c8m [[false, false, false], [false, false, false], [false, false, false]]
def c8star : V := c8m [[true, true, true], [false, true, true], [false, false, true]]
def c8id : V := c8m [[true, false, false], [false, true, false], [false, false, true]]
def c8or : V := c8m [[true, true, false], [false, true, true], [false, false, true]]
theorem is33 : Is Proofs.Tryd.prog 33 := ⟨Proofs.Tryd.f33, Proofs.Tryd.func33, by kernel_rfl, by kernel_rfl⟩
theorem is16 : Is Proofs.Tryd.prog 16 := ⟨Proofs.Tryd.f16, Proofs.Tryd.func16, by kernel_rfl, by kernel_rfl⟩
theorem is13 : Is Proofs.Tryd.prog 13 := ⟨Proofs.Tryd.f13, Proofs.Tryd.func13, by kernel_rfl, by kernel_rfl⟩
theorem is10 : Is Proofs.Tryd.prog 10 := ⟨Proofs.Tryd.f10, Proofs.Tryd.func10, by kernel_rfl, by kernel_rfl⟩
theorem c8ok : c8L.all (fOk Proofs.Tryd.prog E1) = true := by kernel_rfl
theorem c8r13 : runS c8L Proofs.Tryd.prog E1 E1 50 13 [c8S] = some (.tuple [c8pat, c8f]) := by kernel_rfl
theorem c8r10 : runS c8L Proofs.Tryd.prog E1 E1 50 10 [c8pat] = some (.tuple [c8S, c8f]) := by kernel_rfl
theorem c8a1 : runS c8L Proofs.Tryd.prog E1 E1 50 33 [c8set 97, c8w 97] = some c8yes := by kernel_rfl
theorem c8a2 : runS c8L Proofs.Tryd.prog E1 E1 50 33 [c8set 98, c8w 98] = some c8yes := by kernel_rfl
theorem c8a3 : runS c8L Proofs.Tryd.prog E1 E1 50 33 [c8set 97, c8w 98] = some c8no := by kernel_rfl
theorem c8a4 : runS c8L Proofs.Tryd.prog E1 E1 50 33 [c8set 98, c8w 97] = some c8no := by kernel_rfl
def c8t1 : List (List V × V) := [([c8set 97, c8w 97], c8yes), ([c8set 98, c8w 98], c8yes), ([c8set 97, c8w 98], c8no), ([c8set 98, c8w 97], c8no)]
def Ec1 : Env := E1.with 33 (tabF c8t1)
theorem goodc1 : Good False Proofs.Tryd.prog Ec1 := good1.with (tabS_sound good1 good1 c8ok c8ok is33 50 c8t1 fun p hp => by
  simp only [c8t1, List.mem_cons, List.not_mem_nil, or_false] at hp
  rcases hp with rfl | rfl | rfl | rfl
  · exact c8a1
  · exact c8a2
  · exact c8a3
  · exact c8a4)
theorem c8ok1 : c8L.all (fOk Proofs.Tryd.prog Ec1) = true := by kernel_rfl
theorem c8b1 : runS c8L Proofs.Tryd.prog E1 Ec1 50 33 [c8rep, c8w 97] = some c8star := by kernel_rfl
theorem c8b2 : runS c8L Proofs.Tryd.prog E1 Ec1 50 33 [c8rep, c8w 98] = some c8id := by kernel_rfl
theorem goodc2a : OraOk False Proofs.Tryd.prog 33 (tabF [([c8rep, c8w 97], c8star), ([c8rep, c8w 98], c8id)]) := tabS_sound good1 goodc1 c8ok c8ok1 is33 50 _ fun p hp => by
  simp only [List.mem_cons, List.not_mem_nil, or_false] at hp
  rcases hp with rfl | rfl
  · exact c8b1
  · exact c8b2
theorem goodc2b : OraOk False Proofs.Tryd.prog 33 (tabF [([c8set 98, c8w 98], c8yes), ([c8set 98, c8w 97], c8no)]) := tabS_sound good1 good1 c8ok c8ok is33 50 _ fun p hp => by
  simp only [List.mem_cons, List.not_mem_nil, or_false] at hp
  rcases hp with rfl | rfl
  · exact c8a2
  · exact c8a4
def Ec2 : Env := E1.with 33 (orF (tabF [([c8rep, c8w 97], c8star), ([c8rep, c8w 98], c8id)]) (tabF [([c8set 98, c8w 98], c8yes), ([c8set 98, c8w 97], c8no)]))
theorem goodc2 : Good False Proofs.Tryd.prog Ec2 := good1.with (orF_ok goodc2a goodc2b)
theorem c8ok2 : c8L.all (fOk Proofs.Tryd.prog Ec2) = true := by kernel_rfl
theorem c8d1 : runS c8L Proofs.Tryd.prog E1 Ec2 50 33 [c8pat, c8w 97] = some c8star := by kernel_rfl
theorem c8d2 : runS c8L Proofs.Tryd.prog E1 Ec2 50 33 [c8pat, c8w 98] = some c8or := by kernel_rfl
def Ec3 : Env := E1.with 33 (tabF [([c8pat, c8w 97], c8star), ([c8pat, c8w 98], c8or)])
theorem goodc3 : Good False Proofs.Tryd.prog Ec3 := good1.with (tabS_sound good1 goodc2 c8ok c8ok2 is33 50 _ fun p hp => by
  simp only [List.mem_cons, List.not_mem_nil, or_false] at hp
  rcases hp with rfl | rfl
  · exact c8d1
  · exact c8d2)
theorem c8ok3 : c8L.all (fOk Proofs.Tryd.prog Ec3) = true := by kernel_rfl
theorem c8e1 : runS c8L Proofs.Tryd.prog E1 Ec3 50 16 [c8pat, c8w 97] = some (.tuple [.bool true, c8f]) := by kernel_rfl
theorem c8e2 : runS c8L Proofs.Tryd.prog E1 Ec3 50 16 [c8pat, c8w 98] = some (.tuple [.bool false, c8f]) := by kernel_rfl
def Ec4 : Env := ((E1.with 16 (tabF [([c8pat, c8w 97], .tuple [.bool true, c8f]), ([c8pat, c8w 98], .tuple [.bool false, c8f])])).with 13 (tabF [([c8S], .tuple [c8pat, c8f])])).with 10 (tabF [([c8pat], .tuple [c8S, c8f])])
theorem goodc4 : Good False Proofs.Tryd.prog Ec4 := ((good1.with (tabS_sound good1 goodc3 c8ok c8ok3 is16 50 _ fun p hp => by
  simp only [List.mem_cons, List.not_mem_nil, or_false] at hp
  rcases hp with rfl | rfl
  · exact c8e1
  · exact c8e2)).with (tabS_sound good1 good1 c8ok c8ok is13 50 _ fun p hp => by
  simp only [List.mem_cons, List.not_mem_nil, or_false] at hp
  subst hp
  exact c8r13)).with (tabS_sound good1 good1 c8ok c8ok is10 50 _ fun p hp => by
  simp only [List.mem_cons, List.not_mem_nil, or_false] at hp
  subst hp
  exact c8r10)
theorem closed8 : OraOk False Proofs.Tryd.prog 8 trueF := closed_sound (n := 60) goodc4 ((runVC_eq [] _ _ rfl _ _ _).symm.trans (by kernel_rfl))
theorem ora_ok : OSound False Proofs.Tryd.prog E := by
  intro f F h
  have h : oraT f = some F := h
  unfold oraT at h
  split at h
  · cases h; exact closed8
  · exact ora1_ok f F h
theorem good : Good False Proofs.Tryd.prog E := ⟨(good0 (DR := False)).mixed, T_ok, names_ok, ora_ok, (fun f F h => by cases h)⟩
inductive IsP24 : V → Prop where
  | mk (x0 : Int) (x1 : (List Int)) (x2 : List V) (h2 : ∀ v ∈ x2, IsP24 v) (x3 : Int) (x4 : Int) : IsP24 (.agg [(vI x0), (vP eI x1), .sl .plain x2, (vI x3), (vI x4)])
def P24 : Type := {v : V // IsP24 v}
structure S24 where
  fKind : Int
  fLabels : (List Int)
  fSubs : (List P24)
  fLeast : Int
  fMost : Int
def ep24 : P24 → V := Subtype.val
def e24 : S24 → V := fun x => (.agg [(vI x.fKind), (vP eI x.fLabels), (vP ep24 x.fSubs), (vI x.fLeast), (vI x.fMost)])
theorem ep24_all (l : List P24) : ∀ v ∈ l.map ep24, IsP24 v := fun v hv => by
  obtain ⟨p, _, rfl⟩ := List.mem_map.1 hv
  exact p.2
def P24.con (s : S24) : P24 := ⟨e24 s, .mk s.fKind s.fLabels _ (ep24_all s.fSubs) s.fLeast s.fMost⟩
theorem ep24_list : ∀ (l : List V), (∀ v ∈ l, IsP24 v) → ∃ q : List P24, q.map ep24 = l
  | [], _ => ⟨[], rfl⟩
  | v :: r, h => by
    obtain ⟨q, hq⟩ := ep24_list r fun u hu => h u (List.mem_cons_of_mem _ hu)
    exact ⟨(show P24 from ⟨v, h v List.mem_cons_self⟩) :: q, congrArg (v :: ·) hq⟩
theorem P24.exists_vw (p : P24) : ∃ s : S24, e24 s = p.1 := by
  obtain ⟨v, hv⟩ := p
  cases hv with
  | mk x0 x1 x2 h2 x3 x4 =>
    obtain ⟨q2, rfl⟩ := ep24_list x2 h2
    exact ⟨⟨x0, x1, q2, x3, x4⟩, rfl⟩
noncomputable def P24.vw (p : P24) : S24 := Classical.choose p.exists_vw
theorem ep24_vw (p : P24) : ep24 p = e24 p.vw := (Classical.choose_spec p.exists_vw).symm
theorem ep24_len (p : P24) : (ep24 p).cells.length = 5 := by rw [ep24_vw]; rfl
theorem ixb24 {r : Option (D × List AObj)} {p : P24} {h : List AObj} (e : r = some (.vptr (ep24 p).cells, h)) : r = some (.vptr (e24 p.vw).cells, h) := by rw [ep24_vw] at e; exact e
structure S27 where
  fCode : Int
  fIndex : Int
def e27 : S27 → V := fun x => (.agg [(vI x.fCode), (vI x.fIndex)])
structure S45 where
  fNodes : Int
def e45 : S45 → V := fun x => (.agg [(vI x.fNodes)])
def c45 : S45 → List D := fun x => [(dI x.fNodes)]
structure S52 where
  fP : S24
  fDepth : Int
def e52 : S52 → V := fun x => (.agg [(vI x.fP.fKind), (vP eI x.fP.fLabels), (vP ep24 x.fP.fSubs), (vI x.fP.fLeast), (vI x.fP.fMost), (vI x.fDepth)])
structure S58 where
  fL : (List Int)
  fAt : Int
def e58 : S58 → V := fun x => (.agg [(vP eI x.fL), (vI x.fAt)])
def c58 : S58 → List D := fun x => [(dP eI x.fL), (dI x.fAt)]
end Go.Abs
