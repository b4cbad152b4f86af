import Derived.Test.YtgmbaemdedachaaAbsW
import Derived.Test.YtgmbaemdedachaaAbsL
import Derived.Test.YtgmbaemdedachaaAbsH
import Derived.Test.YtgmbaemdedachaaAbsRw
import Derived.Test.YtgmbaemdedachaaProg
namespace Go.Abs
set_option linter.unusedVariables false
set_option linter.unusedSimpArgs false
set_option linter.unnecessarySimpa false
set_option maxRecDepth 100000
theorem Ops.hv {X : Cx} {ops : List Oper} {i : Nat} {σ : St} {Q : St → Prop} (P : (Nat → St → Prop) → Prop) (h1 : P fun j τ => Ops X ops j τ Q) (h2 : (P fun j τ => Ops X ops j τ Q) → Ops X ops i σ Q) : Ops X ops i σ Q := h2 h1
def ti3 : TI := ⟨.int .i64, 1, 8, .int .i64 (0), true, []⟩
def ti4 : TI := ⟨.bool, 1, 1, .bool false, true, []⟩
def ti5 : TI := ⟨.int .u8, 1, 1, .int .u8 (0), true, []⟩
def ti9 : TI := ⟨.str, 1, 16, .str ByteArray.empty, true, []⟩
def ti22 : TI := ⟨.slice 58, 1, 24, .sl .nil [], true, []⟩
def ti23 : TI := ⟨.slice 49, 1, 24, .sl .nil [], true, []⟩
def ti25 : TI := ⟨.slice 53, 1, 24, .sl .nil [], true, []⟩
def ti26 : TI := ⟨.slice 55, 1, 24, .sl .nil [], true, []⟩
def ti28 : TI := ⟨.struct [(0, 3), (1, 25), (2, 26)], 3, 56, .agg [.int .i64 (0), .sl .nil [], .sl .nil []], true, []⟩
def ti30 : TI := ⟨.struct [(0, 3), (1, 3)], 2, 16, .agg [.int .i64 (0), .int .i64 (0)], true, []⟩
def ti49 : TI := ⟨.struct [(0, 3), (1, 3)], 2, 16, .agg [.int .i64 (0), .int .i64 (0)], true, []⟩
def ti53 : TI := ⟨.struct [(0, 3), (1, 3), (2, 3), (3, 3), (4, 3)], 5, 40, .agg [.int .i64 (0), .int .i64 (0), .int .i64 (0), .int .i64 (0), .int .i64 (0)], true, []⟩
def ti55 : TI := ⟨.struct [(0, 3), (1, 3)], 2, 16, .agg [.int .i64 (0), .int .i64 (0)], true, []⟩
def ti56 : TI := ⟨.slice 73, 1, 24, .sl .nil [], true, []⟩
def ti58 : TI := ⟨.struct [(0, 3), (1, 49), (3, 56)], 4, 48, .agg [.int .i64 (0), .int .i64 (0), .int .i64 (0), .sl .nil []], true, []⟩
def ti62 : TI := ⟨.slice 3, 1, 24, .sl .nil [], true, []⟩
def ti65 : TI := ⟨.slice 62, 1, 24, .sl .nil [], true, []⟩
def ti66 : TI := ⟨.slice 4, 1, 24, .sl .nil [], true, []⟩
def ti73 : TI := ⟨.struct [(0, 23), (1, 23), (2, 4), (3, 4)], 4, 56, .agg [.sl .nil [], .sl .nil [], .bool false, .bool false], true, []⟩
def ti80 : TI := ⟨.slice 112, 1, 24, .sl .nil [], true, []⟩
def ti81 : TI := ⟨.slice 80, 1, 24, .sl .nil [], true, []⟩
def ti82 : TI := ⟨.struct [(0, 62), (1, 80), (2, 81)], 3, 72, .agg [.sl .nil [], .sl .nil [], .sl .nil []], true, []⟩
def ti83 : TI := ⟨.struct [(0, 62), (1, 80), (2, 81)], 3, 72, .agg [.sl .nil [], .sl .nil [], .sl .nil []], true, [("glosswright/twolevel.key", some (49, false))]⟩
def ti85 : TI := ⟨.slice 83, 1, 24, .sl .nil [], true, []⟩
def ti95 : TI := ⟨.struct [(0, 3), (1, 3)], 2, 16, .agg [.int .i64 (0), .int .i64 (0)], true, []⟩
def ti96 : TI := ⟨.struct [(0, 3), (1, 3)], 2, 16, .agg [.int .i64 (0), .int .i64 (0)], true, []⟩
def ti97 : TI := ⟨.slice 96, 1, 24, .sl .nil [], true, []⟩
def ti110 : TI := ⟨.slice 5, 1, 24, .sl .nil [], true, []⟩
def ti112 : TI := ⟨.struct [(0, 3), (1, 3)], 2, 16, .agg [.int .i64 (0), .int .i64 (0)], true, []⟩
def ti124 : TI := ⟨.int .u64, 1, 8, .int .u64 (0), true, []⟩
def T (t : Nat) : Option TI := match t with
 | 3 => some ti3
 | 4 => some ti4
 | 5 => some ti5
 | 9 => some ti9
 | 22 => some ti22
 | 23 => some ti23
 | 25 => some ti25
 | 26 => some ti26
 | 28 => some ti28
 | 30 => some ti30
 | 49 => some ti49
 | 53 => some ti53
 | 55 => some ti55
 | 56 => some ti56
 | 58 => some ti58
 | 62 => some ti62
 | 65 => some ti65
 | 66 => some ti66
 | 73 => some ti73
 | 80 => some ti80
 | 81 => some ti81
 | 82 => some ti82
 | 83 => some ti83
 | 85 => some ti85
 | 95 => some ti95
 | 96 => some ti96
 | 97 => some ti97
 | 110 => some ti110
 | 112 => some ti112
 | 124 => some ti124
 | _ => none
theorem T_ok : ∀ t i, T t = some i → tiOf Proofs.Try.prog t = some i := by
 intro t i h
 unfold T at h
 split at h <;> first | (cases h; kernel_rfl) | (cases h; done)
def loopT (f k : Nat) : List Nat := match f, k with
 | 75, 2 => [0, 1, 2, 6, 11, 12, 13]
 | 78, 4 => [0, 1, 4, 12, 13]
 | 49, 3 => [1, 2, 3, 13, 14, 15]
 | 49, 8 => [1, 2, 3, 26, 27, 28]
 | 49, 14 => [2, 3, 47, 48, 49]
 | 49, 17 => [2, 3, 47, 48, 49, 53, 54, 55]
 | 51, 4 => [2, 4, 12, 13, 14]
 | 69, 2 => [2, 3, 6, 10, 11, 12]
 | 68, 3 => [3, 5, 6, 7, 11, 12, 13]
 | 26, 3 => [2, 3, 8, 9]
 | 24, 4 => [2, 10, 11, 12]
 | 44, 10 => [2, 33, 34, 35]
 | 64, 2 => [2, 5, 6, 7]
 | 25, 4 => [0, 2, 6, 14, 15, 16]
 | 19, 8 => [1, 4, 5, 6, 24, 25, 26]
 | 19, 11 => [1, 4, 5, 6, 9, 10, 24, 25, 26, 32, 33]
 | 38, 3 => [1, 2, 3, 6, 7, 14, 15, 16]
 | 60, 5 => [1, 2, 3, 6, 7, 51, 52, 53]
 | 60, 11 => [1, 2, 6, 69, 70, 71]
 | 20, 6 => [1, 2, 18, 19, 20]
 | 20, 14 => [1, 2, 78, 79, 80]
 | 61, 3 => [2, 3, 6, 7, 8]
 | 13, 5 => [2, 4, 5, 21, 22, 23]
 | 13, 9 => [2, 4, 5, 7, 8, 21, 22, 23, 31, 32, 33]
 | 13, 17 => [4, 5, 64, 65, 66]
 | 42, 5 => [1, 2, 3, 4, 22, 23, 24]
 | 42, 10 => [1, 2, 3, 4, 34, 35]
 | 42, 12 => [1, 2, 3, 4, 34, 35, 38, 39, 40]
 | 42, 21 => [1, 2, 3, 4, 65, 66]
 | 63, 6 => [1, 2, 4, 5, 6, 26, 27]
 | 63, 13 => [1, 2, 4, 5, 6, 45, 46, 47]
 | 63, 19 => [1, 4, 5, 6, 87, 88, 89]
 | 17, 4 => [2, 3, 4, 32, 33]
 | 17, 10 => [2, 3, 4, 50, 51]
 | 4, 8 => [1, 2, 6, 7, 9, 44, 45, 46]
 | 4, 12 => [1, 2, 6, 7, 9, 13, 14, 44, 45, 46, 50, 51, 52]
 | 5, 9 => [1, 4, 5, 36, 37, 38]
 | 5, 13 => [1, 4, 5, 7, 8, 9, 36, 37, 38, 43, 44, 45]
 | 5, 25 => [4, 96, 97, 98]
 | 7, 10 => [1, 4, 5, 8, 9, 10, 45, 46, 47]
 | 7, 23 => [1, 4, 5, 14, 84, 85, 86]
 | _, _ => []
def condT (f k : Nat) : List Nat := match f, k with
 | 71, 9 => [2, 3, 4]
 | 75, 14 => [0, 1, 2, 6, 11, 12, 13]
 | 75, 21 => [0, 1, 2, 6, 7, 8, 11, 12, 13]
 | 75, 31 => [0, 1, 2, 6, 11, 12, 13]
 | 75, 38 => [6]
 | 78, 10 => [0, 1, 4]
 | 78, 14 => [0, 1, 4, 12, 13]
 | 78, 24 => [0, 1, 4, 12, 13]
 | 49, 16 => [1, 2, 3, 13, 14, 15]
 | 49, 29 => [1, 2, 3, 26, 27, 28]
 | 49, 50 => [2, 3, 47, 48, 49]
 | 49, 56 => [2, 3, 47, 48, 49, 53, 54, 55]
 | 51, 10 => [2, 3, 4]
 | 51, 15 => [2, 4, 12, 13, 14]
 | 51, 21 => [2, 4, 12, 13, 14]
 | 69, 13 => [2, 3, 6, 10, 11, 12]
 | 69, 33 => [2, 3, 6, 10, 11, 12]
 | 68, 14 => [3, 5, 6, 7, 11, 12, 13]
 | 68, 37 => [3, 5, 6, 7, 11, 12, 13]
 | 26, 10 => [2, 3, 8, 9]
 | 24, 8 => [0, 2]
 | 24, 13 => [2, 10, 11, 12]
 | 24, 20 => [2, 10, 11, 12]
 | 44, 10 => [1, 2]
 | 44, 22 => [1, 2]
 | 44, 26 => [1, 2]
 | 44, 31 => [1, 2]
 | 44, 36 => [2, 33, 34, 35]
 | 44, 48 => [2, 4, 33, 34, 35]
 | 44, 53 => [2, 4, 33, 34, 35]
 | 44, 59 => [2, 33, 34, 35]
 | 64, 8 => [2, 5, 6, 7]
 | 64, 20 => [2, 4, 5, 6, 7]
 | 64, 23 => [2, 5, 6, 7]
 | 25, 12 => [0, 2, 6]
 | 25, 17 => [0, 2, 6, 14, 15, 16]
 | 25, 30 => [0, 2, 6, 7, 8, 14, 15, 16]
 | 25, 35 => [0, 2, 6, 7, 8, 14, 15, 16]
 | 25, 76 => [0, 2, 6, 14, 15, 16]
 | 19, 16 => [0, 1, 4, 5, 6]
 | 19, 22 => [0, 1, 4, 5, 6]
 | 19, 27 => [1, 4, 5, 6, 24, 25, 26]
 | 19, 34 => [1, 4, 5, 6, 9, 10, 24, 25, 26, 32, 33]
 | 19, 40 => [1, 4, 5, 6, 9, 10, 24, 25, 26, 32, 33]
 | 38, 17 => [1, 2, 3, 6, 7, 14, 15, 16]
 | 38, 57 => [3, 6, 7, 10]
 | 38, 60 => [3, 6, 7, 10]
 | 38, 63 => [3, 6, 7, 10]
 | 60, 49 => [1, 2, 3, 6, 7]
 | 60, 54 => [1, 2, 3, 6, 7, 51, 52, 53]
 | 60, 66 => [1, 2, 3, 6, 7, 51, 52, 53]
 | 60, 72 => [1, 2, 6, 69, 70, 71]
 | 60, 85 => [1, 2, 6, 69, 70, 71]
 | 20, 10 => [1, 2]
 | 20, 15 => [1, 2]
 | 20, 21 => [1, 2, 18, 19, 20]
 | 20, 58 => [1, 2, 3, 4, 18, 19, 20]
 | 20, 73 => [1, 2, 18, 19, 20]
 | 20, 81 => [1, 2, 78, 79, 80]
 | 20, 97 => [1, 2, 5, 6, 78, 79, 80]
 | 20, 117 => [1, 2, 78, 79, 80]
 | 62, 11 => [0, 1, 4, 6]
 | 62, 12 => [4]
 | 62, 13 => [0, 1, 4]
 | 62, 16 => [0, 1, 4]
 | 62, 19 => [4]
 | 61, 9 => [2, 3, 6, 7, 8]
 | 61, 14 => [2, 3, 6, 7, 8]
 | 13, 18 => [1, 2, 4, 5]
 | 13, 24 => [2, 4, 5, 21, 22, 23]
 | 13, 34 => [2, 4, 5, 7, 8, 21, 22, 23, 31, 32, 33]
 | 13, 55 => [2, 4, 5, 7, 8, 21, 22, 23, 31, 32, 33]
 | 13, 67 => [4, 5, 64, 65, 66]
 | 13, 74 => [4, 5, 64, 65, 66]
 | 42, 18 => [1, 2, 3, 4]
 | 42, 25 => [1, 2, 3, 4, 22, 23, 24]
 | 42, 36 => [1, 2, 3, 4, 34, 35]
 | 42, 41 => [1, 2, 3, 4, 34, 35, 38, 39, 40]
 | 42, 48 => [1, 2, 3, 4, 8, 34, 35, 38, 39, 40]
 | 42, 57 => [1, 2, 3, 4, 34, 35, 38, 39, 40]
 | 42, 67 => [1, 2, 3, 4, 65, 66]
 | 63, 20 => [1, 2, 4]
 | 63, 28 => [1, 2, 4, 5, 6, 26, 27]
 | 63, 38 => [1, 2, 4, 5, 6, 26, 27]
 | 63, 48 => [1, 2, 4, 5, 6, 45, 46, 47]
 | 63, 62 => [1, 2, 4, 5, 6, 45, 46, 47]
 | 63, 90 => [1, 4, 5, 6, 87, 88, 89]
 | 63, 97 => [1, 4, 5, 6, 87, 88, 89]
 | 17, 29 => [2, 3, 4]
 | 17, 34 => [2, 3, 4, 32, 33]
 | 17, 46 => [2, 3, 4, 32, 33]
 | 17, 52 => [2, 3, 4, 50, 51]
 | 17, 64 => [2, 3, 4, 50, 51]
 | 4, 22 => [0, 1, 2, 6]
 | 4, 43 => [1, 2, 6, 7, 9]
 | 4, 47 => [1, 2, 6, 7, 9, 44, 45, 46]
 | 4, 53 => [1, 2, 6, 7, 9, 13, 14, 44, 45, 46, 50, 51, 52]
 | 5, 16 => [0, 1, 4]
 | 5, 25 => [1, 4, 5]
 | 5, 34 => [1, 4, 5]
 | 5, 39 => [1, 4, 5, 36, 37, 38]
 | 5, 46 => [1, 4, 5, 7, 8, 9, 36, 37, 38, 43, 44, 45]
 | 5, 66 => [1, 4, 5, 7, 8, 36, 37, 38]
 | 5, 68 => [1, 4, 5, 36, 37, 38]
 | 5, 93 => [1, 4, 5, 36, 37, 38]
 | 5, 99 => [4, 96, 97, 98]
 | 5, 104 => [4, 96, 97, 98]
 | 7, 22 => [0, 1, 4, 5]
 | 7, 29 => [0, 1, 4, 5]
 | 7, 48 => [1, 4, 5, 8, 9, 10, 45, 46, 47]
 | 7, 53 => [1, 4, 5, 8, 9, 10, 12, 45, 46, 47]
 | 7, 64 => [1, 4, 5, 8, 9, 10, 45, 46, 47]
 | 7, 75 => [1, 4, 5, 9]
 | 7, 87 => [1, 4, 5, 14, 84, 85, 86]
 | _, _ => []
def blkT (f k : Nat) : List Nat := match f, k with
 | 75, 0 => [0, 1, 6]
 | 75, 1 => [0, 1, 2, 6, 11, 12, 13]
 | 78, 0 => [4]
 | 78, 1 => [0, 1, 4, 12, 13]
 | 49, 0 => [1, 2, 3]
 | 49, 1 => [1, 2, 3, 13, 14, 15]
 | 49, 2 => [1, 2, 3]
 | 49, 3 => [1, 2, 3, 26, 27, 28]
 | 49, 4 => [2, 3]
 | 49, 5 => [2, 3, 47, 48, 49]
 | 49, 6 => [2, 3, 47, 48, 49]
 | 49, 7 => [2, 3, 47, 48, 49, 53, 54, 55]
 | 51, 0 => [4]
 | 51, 1 => [2, 4, 12, 13, 14]
 | 69, 0 => [6]
 | 69, 1 => [2, 3, 6, 10, 11, 12]
 | 68, 0 => [6, 7]
 | 68, 1 => [3, 5, 6, 7, 11, 12, 13]
 | 26, 0 => [2, 3]
 | 26, 1 => [2, 3, 8, 9]
 | 24, 0 => [2]
 | 24, 1 => [2, 10, 11, 12]
 | 44, 0 => [2]
 | 44, 1 => [2, 33, 34, 35]
 | 64, 0 => [2]
 | 64, 1 => [2, 5, 6, 7]
 | 25, 0 => [6]
 | 25, 1 => [0, 2, 6, 14, 15, 16]
 | 19, 0 => [4, 5, 6]
 | 19, 1 => [1, 4, 5, 6, 24, 25, 26]
 | 19, 2 => [1, 4, 5, 6, 24, 25, 26]
 | 19, 3 => [1, 4, 5, 6, 9, 10, 24, 25, 26, 32, 33]
 | 38, 0 => [1, 2, 3, 6, 7]
 | 38, 1 => [1, 2, 3, 6, 7, 14, 15, 16]
 | 38, 2 => [3, 6, 7, 10]
 | 60, 0 => [1, 2, 3, 6]
 | 60, 1 => [1, 2, 3, 6, 7, 51, 52, 53]
 | 60, 2 => [6]
 | 60, 3 => [1, 2, 6, 69, 70, 71]
 | 20, 0 => [1, 2]
 | 20, 1 => [1, 2, 18, 19, 20]
 | 20, 2 => [2]
 | 20, 3 => [1, 2, 78, 79, 80]
 | 61, 0 => [2, 3]
 | 61, 1 => [2, 3, 6, 7, 8]
 | 13, 0 => [2, 4, 5]
 | 13, 1 => [2, 4, 5, 21, 22, 23]
 | 13, 2 => [2, 4, 8, 21, 22, 23]
 | 13, 3 => [2, 4, 5, 7, 8, 21, 22, 23, 31, 32, 33]
 | 13, 4 => [4]
 | 13, 5 => [4, 5, 64, 65, 66]
 | 42, 0 => [1, 2, 3, 4]
 | 42, 1 => [1, 2, 3, 4, 22, 23, 24]
 | 42, 2 => [1, 2, 3, 4]
 | 42, 3 => [1, 2, 3, 4, 34, 35]
 | 42, 4 => [1, 2, 3, 4, 34, 35]
 | 42, 5 => [1, 2, 3, 4, 34, 35, 38, 39, 40]
 | 42, 6 => [1, 2, 3]
 | 42, 7 => [1, 2, 3, 4, 65, 66]
 | 63, 0 => [1, 2, 4, 5, 6]
 | 63, 1 => [1, 2, 4, 5, 6, 26, 27]
 | 63, 2 => [1, 2, 4, 5, 6]
 | 63, 3 => [1, 2, 4, 5, 6, 45, 46, 47]
 | 63, 4 => [4, 6]
 | 63, 5 => [1, 4, 5, 6, 87, 88, 89]
 | 17, 0 => [2, 3, 4]
 | 17, 1 => [2, 3, 4, 32, 33]
 | 17, 2 => [4]
 | 17, 3 => [2, 3, 4, 50, 51]
 | 4, 0 => [2, 6, 7, 9]
 | 4, 1 => [1, 2, 6, 7, 9, 44, 45, 46]
 | 4, 2 => [1, 2, 6, 7, 9, 14, 44, 45, 46]
 | 4, 3 => [1, 2, 6, 7, 9, 13, 14, 44, 45, 46, 50, 51, 52]
 | 5, 0 => [4, 5]
 | 5, 1 => [1, 4, 5, 36, 37, 38]
 | 5, 2 => [1, 4, 5, 7, 8, 9, 36, 37, 38]
 | 5, 3 => [1, 4, 5, 7, 8, 9, 36, 37, 38, 43, 44, 45]
 | 5, 4 => [4]
 | 5, 5 => [4, 96, 97, 98]
 | 7, 0 => [1, 4, 5, 9, 10]
 | 7, 1 => [1, 4, 5, 8, 9, 10, 45, 46, 47]
 | 7, 2 => [4, 5, 14]
 | 7, 3 => [1, 4, 5, 14, 84, 85, 86]
 | _, _ => []
def accT (f : Nat) : List Nat := match f with
 | 13 => [5, 8]
 | 49 => [3]
 | 63 => [100601, 100602]
 | 68 => [7]
 | _ => []
def ownT : List Nat := [72, 93, 76, 92, 114, 89, 115, 107, 95, 90, 70, 101, 116, 105, 112, 73, 86, 94, 102, 110, 99, 91, 106, 109, 104, 100, 84, 111, 96, 103, 113]
def rowT : List Nat := [72, 93, 76, 92, 114, 89, 115, 107, 95, 90, 70, 101, 116, 105, 112, 73, 86, 94, 102, 110, 99, 91, 106, 109, 104, 100, 84, 111, 96, 103, 113]
def E0 : Env := { T := T, pureF := fun f => !ownT.contains f, keep := fun f => ⟨loopT f, condT f, blkT f⟩, acc := accT, rowF := fun f => rowT.contains f, rowM := false, ora := fun _ => none, oraD := fun _ => none }
theorem names_ok : ∀ (f : Nat) fn, Proofs.Try.prog.funcs[f]? = some fn → (fn.name == "runtime.NumGoroutine") = false := by
 intro f fn h
 have hall : (Proofs.Try.prog.funcs.toList.all fun fn => !(fn.name == "runtime.NumGoroutine")) = true := by kernel_rfl
 have := zZ.1 hall fn (zE (by simpa using h))
 simpa using this
theorem good0 {DR : Prop} : Good DR Proofs.Try.prog E0 := ⟨kr, T_ok, names_ok, (fun f F h => by cases h), (fun f F h => by cases h)⟩
abbrev E : Env := E0
theorem good : Good False Proofs.Try.prog E := good0
structure S52 where
 fFr : Int
 fTo : Int
 fIn : Int
 fOut : Int
 fWt : Int
def e52 : S52 → V := fun x => (.agg [(vI x.fFr), (vI x.fTo), (vI x.fIn), (vI x.fOut), (vI x.fWt)])
structure S54 where
 fSe : Int
 fWt : Int
def e54 : S54 → V := fun x => (.agg [(vI x.fSe), (vI x.fWt)])
structure S27 where
 fSt : Int
 fAs : (List S52)
 fFn : (List S54)
def e27 : S27 → V := fun x => (.agg [(vI x.fSt), (vP e52 x.fAs), (vP e54 x.fFn)])
structure S29 where
 fCo : Int
 fIx : Int
def e29 : S29 → V := fun x => (.agg [(vI x.fCo), (vI x.fIx)])
structure S48 where
 fLx : Int
 fSf : Int
def e48 : S48 → V := fun x => (.agg [(vI x.fLx), (vI x.fSf)])
structure S72 where
 fLf : (List S48)
 fRt : (List S48)
 fBg : Bool
 fEnd : Bool
def e72 : S72 → V := fun x => (.agg [(vP e48 x.fLf), (vP e48 x.fRt), (vB x.fBg), (vB x.fEnd)])
structure S57 where
 fKn : Int
 fPr : S48
 fCx : (List S72)
def e57 : S57 → V := fun x => (.agg [(vI x.fKn), (vI x.fPr.fLx), (vI x.fPr.fSf), (vP e72 x.fCx)])
structure S111 where
 fCt : Int
 fSn : Int
def e111 : S111 → V := fun x => (.agg [(vI x.fCt), (vI x.fSn)])
structure S82 where
 fLf : (List Int)
 fBad : (List S111)
 fNd : (List (List S111))
def e82 : S82 → V := fun x => (.agg [(vP eI x.fLf), (vP e111 x.fBad), (vP (eL e111) x.fNd)])
structure S95 where
 fA : Int
 fB : Int
def e95 : S95 → V := fun x => (.agg [(vI x.fA), (vI x.fB)])
abbrev dd (n : Nat) (l : List AObj) : List AObj := List.replicate n .dead ++ l
variable {X : Cx} {c : Code} {σ : St} {Q : Post}
theorem Ops.sx {ops : List Oper} {Q : St → Prop} {i : Nat} {σ1 : St} (h : Ops X ops i σ1 Q) (e : σ = σ1 := by kernel_rfl) : Ops X ops i σ Q := by rw [e]; exact h
theorem Wp.rt (h : Q .ret σ) (hc : c = .ret := by kernel_rfl) : Wp X c σ Q := Wp.ret hc h
variable {L : Nat} {ks : List Nat}
theorem sqQ.m (σ1 : St) (h : Q .normal σ1) (e : squash ks X.acc L σ = σ1 := by kernel_rfl) : sqQ X ks L Q .normal σ := sqQ.n σ1 e h
variable {id : Nat}
theorem blkQ.m (σ1 : St) (h : Q .normal σ1) (e : squash ks X.acc L σ = σ1 := by kernel_rfl) : blkQ X id ks L Q .normal σ := blkQ.n σ1 e h
theorem blkQ.w (σ1 : St) (h : Q .normal σ1) (e : squash ks X.acc L σ = σ1 := by kernel_rfl) : blkQ X id ks L Q (.exit id) σ := blkQ.x σ1 e h
theorem lpQ.m {n : Nat} (σ1 : St) (h : Lp X ks L c n σ1 Q) (e : squash ks X.acc L (forget ks σ) = σ1 := by kernel_rfl) : lpQ X ks L c n Q .normal σ := lpQ.n σ1 e h
theorem Wp.cd {α : Type} {b : Bool} {x y : Option α} {r : α} (h : Abs.cnd b x y = some r) (ks : List Nat) (L : Nat) (h1 : x = some r → Wp X (cL c) σ (sqQ X ks L Q)) (h2 : y = some r → Wp X (cR c) σ (sqQ X ks L Q)) (e : (X.keep.cond (okey (condOp c)), σ.heap.length, isCond c, σ.ev (condOp c)) = (ks, L, true, D.v (.bool b)) := by kernel_rfl) : Wp X c σ Q := Wp.cnd h ks L e h1 h2
theorem Wp.bk (id : Nat) (ks : List Nat) (L : Nat) (h : Wp X (cL c) σ (blkQ X id ks L Q)) (e : (X.keep.blk id, σ.heap.length, blockId c) = (ks, L, some id) := by kernel_rfl) : Wp X c σ Q := Wp.block' id ks L e h
theorem Wp.ex (id : Nat) (h : Q (.exit id) σ) (hc : c = .exit id := by kernel_rfl) : Wp X c σ Q := Wp.exit hc h
theorem Sg {X : Cx} {c : Code} {σ : St} {Q : Post} (k : Nat) (h : Ops X (opl (cL c)) k (asegD X (opl (cL c)) k 0 σ) (seqQ X (cR c) Q .normal)) (h1 : isSeq c = true := by kernel_rfl) (h2 : regionOk X.E (cL c) = true := by kernel_rfl) (e : (0 + k == k && (aseg X (opl (cL c)) k 0 σ).isSome) = true := by kernel_rfl) : Wp X c σ Q := Wp.sq (Wp.rg (Ops.sg k k h e) h2) h1
theorem Rg {X : Cx} {c : Code} {σ : St} {Q : Post} (k : Nat) (h : Ops X (opl c) k (asegD X (opl c) k 0 σ) (Q .normal)) (h2 : regionOk X.E c = true := by kernel_rfl) (e : (0 + k == k && (aseg X (opl c) k 0 σ).isSome) = true := by kernel_rfl) : Wp X c σ Q := Wp.rg (Ops.sg k k h e) h2
theorem Dn {X : Cx} {b : Code} {ops : List Oper} {i : Nat} {σ : St} {Q : Post} (h : Wp X b σ Q) (hi : ops.drop i = [] := by kernel_rfl) : Ops X ops i σ (seqQ X b Q .normal) := Ops.dn h hi
theorem Kn {X : Cx} {b c : Code} {ks : List Nat} {L : Nat} {σ : St} {Q : Post} (h : Wp X b (squash ks X.acc L σ) Q) (hc : c = .skip := by kernel_rfl) : Wp X c σ (sqQ X ks L (seqQ X b Q)) := Wp.sk h hc
abbrev Zs0 (x0 : D) (x1 : Bool) (x2 : Int) (x3 : Bool) (x4 : Int) (x5 x6 x7 x8 x9 x10 x11 x12 x13 : D) (t : List D) : List D := (dB false)::x0::(dB x1)::(dI x2)::(.ptr 0 0)::(dB x3)::(dI x4)::(.ptr 1 0)::x5::x0::x6::x0::x7::x8::x9::x6::(dB x1)::(dI x2)::x10::x11::x0::x7::x12::x11::(dB x3)::(dI x4)::x13::(dB x1)::(dB x1)::t
abbrev Zs1 (x0 : D) (x1 : List S48) (x2 x3 x4 : Int) (x5 : List S48) (x6 x7 : Int) (x8 : List S48) (x9 : Int) (x10 : Bool) (t : List D) : List D := x0::(dP e48 x1)::(dI x2)::(.ptr 0 0)::u2 ((dB false)::(dI x3)::(dI x4)::u4 ((dI x2)::(.ptr 0 0)::(dP e48 x5)::(dI x6)::(dI x3)::(dI x2)::(dI x7)::(.ptr 0 1)::(dP e48 x8)::(dI x9)::(dI x4)::(dI x3)::(dB x10)::(dB x10)::t))
abbrev Zs2 (x0 : List S48) (x1 : Int) (x2 x3 x4 : Bool) (x5 : List S72) (x6 x7 : Int) (x8 x9 x10 : D) (x11 : Bool) (x12 : D) (x13 x14 : Int) (x15 : Bool) (x16 x17 x18 x19 : D) (x20 : Bool) (x21 x22 : D) (x23 : Int) (x24 x25 x26 : Bool) (t : List D) : List D := q1 ((dP e48 x0)::(dI x1)::(.ptr 0 0)::q2 ((dB false)::(dB x2)::q2 ((.ptr 1 0)::(dB x3)::(dB x4)::q1 ((dP e72 x5)::(dI x6)::(dI x7)::q11 ((dP e48 x0)::(dI x1)::x8::x9::x9::(.ptr 0 1)::x10::(dB x11)::(dB x11)::x12::(dB x3)::(.ptr 1 0)::(dI x13)::(.ptr 0 1)::(.ptr 0 1)::(dI x14)::(dB x15)::(dB x15)::x16::x17::x18::x19::(dB x20)::(dB x20)::x21::x22::(dB x4)::(.ptr 0 0)::(dI x23)::(dB x24)::(dB x24)::q1 ((dB x25)::(dB x25)::q1 ((dB x26)::(dB x26)::t)))))))
abbrev Zs3 (x0 : List S48) (x1 : Bool) (x2 x3 : Int) (x4 : Bool) (x5 x6 : D) (x7 : Int) (x8 x9 : Bool) (x10 x11 x12 x13 : D) (x14 : Bool) (x15 : D) (x16 : Bool) (t : List D) : List D := (dP e48 x0)::q1 ((dB x1)::q3 ((.ptr 0 0)::(dI x2)::(.ptr 1 0)::q5 ((dP e48 x0)::(dI x3)::(dI x2)::(dB x4)::(dI x2)::x5::x6::(.ptr 1 0)::(dI x7)::(dB x8)::(dB x9)::(dB x9)::x10::x11::x12::x13::(dB x14)::q2 (x6::x15::(dB x16)::q2 ((dB x1)::(dB x1)::t)))))
abbrev Zs4 (x0 : List S48) (x1 : Int) (x2 x3 : Bool) (x4 : List S72) (x5 x6 : Int) (x7 x8 x9 : D) (x10 : Bool) (x11 : D) (x12 x13 : Int) (x14 : Bool) (t : List D) : List D := q1 ((dP e48 x0)::(dI x1)::(.ptr 0 0)::q2 ((dB false)::(dB x2)::q2 ((.ptr 1 0)::(dB x3)::q2 ((dP e72 x4)::(dI x5)::(dI x6)::q11 ((dP e48 x0)::(dI x1)::x7::x8::x8::(.ptr 0 1)::x9::(dB x10)::(dB x10)::x11::(dB x3)::(.ptr 1 0)::(dI x12)::(.ptr 0 1)::(.ptr 0 1)::(dI x13)::(dB x14)::(dB x14)::t)))))
abbrev Zs5 (x0 x1 : List S48) (x2 : Bool) (t : List D) : List D := q1 ((dP e48 x0)::(dP e48 x1)::q3 ((dB false)::(.ptr 0 0)::q1 ((dB x2)::t)))
abbrev Zs6 (x0 x1 : List Bool) (x2 : List S48) (x3 x4 : Int) (x5 : List S52) (x6 x7 : Int) (x8 x9 : D) (x10 : Int) (x11 : D) (x12 : Bool) (t : List D) : List D := q2 ((.ptr 0 0)::q1 ((dB false)::(pilD 12 (List.map eB x0))::q1 ((.ptr 8 0)::(pilD 13 (List.map eB x1))::q1 ((.ptr 14 0)::q10 ((dP e48 x2)::(dI x3)::(dI x4)::q7 ((dP e52 x5)::(dI x6)::(dI x7)::q1 (x8::x9::(pilD 12 (List.map eB x0))::(.ptr 14 0)::(dI x10)::x11::(dB x12)::(dB x12)::t)))))))
abbrev Zs7 (x0 : List S57) (x1 x2 : List S48) (x3 : Bool) (x4 : Int) (x5 x6 : Bool) (x7 x8 : D) (x9 : Bool) (x10 x11 x12 x13 x14 x15 : D) (x16 : Bool) (t : List D) : List D := (dP e57 x0)::(dP e48 x1)::(dP e48 x2)::u3 ((dB false)::(.ptr 0 0)::(.ptr 1 0)::(dB x3)::(dI x4)::(.ptr 2 0)::u5 ((dB x5)::(dB x6)::(dB x6)::x7::x8::(dB x9)::x10::(dP e57 x0)::(dP e48 x1)::x10::x11::x12::x13::(dP e57 x0)::(dP e48 x2)::x13::(dB x3)::(dI x4)::x14::x12::x15::(dB x16)::(dB x16)::t))
abbrev Zs8 (x0 : List S48) (x1 : Int) (t : List D) : List D := q1 ((dP e48 x0)::(dI x1)::(.ptr 0 0)::q2 ((dB false)::t))
abbrev Zs9  (t : List D) : List D := q2 ((.ptr 0 0)::q1 ((dB false)::t))
abbrev Zs10 (x0 : List S48) (x1 : Int) (x2 : List S57) (x3 x4 : Int) (t : List D) : List D := q1 ((dP e48 x0)::q2 ((dB false)::(dI 0)::(.ptr 0 0)::q2 ((dI x1)::(.ptr 3 0)::q13 ((dP e57 x2)::(dI x3)::(dI x1)::q5 ((dI x4)::t)))))
abbrev Zs11 (x0 x1 : D) (x2 : List (List S111)) (x3 x4 : Int) (t : List D) : List D := q2 (x0::x1::q40 (q3 ((dP (eL e111) x2)::(dI x3)::(dI x4)::t)))
abbrev Zs12 (x0 x1 x2 : D) (x3 : List S48) (x4 x5 x6 : D) (x7 : Bool) (t : List D) : List D := (dB false)::(.ptr 0 0)::(.ptr 1 0)::x0::x1::x2::(dP e48 x3)::x0::x4::x5::x5::x6::(dB x7)::(dB x7)::t
abbrev Zs13  (t : List D) : List D := q2 ((.ptr 0 0)::(.ptr 1 0)::(dB false)::t)
abbrev Zs14 (x0 x1 : D) (t : List D) : List D := x0::x1::(.ptr 0 0)::(.ptr 1 0)::(dB false)::t
abbrev Zs15 (x0 : List S48) (x1 : List S57) (x2 : Int) (t : List D) : List D := q1 ((dP e48 x0)::q2 ((dB false)::(dI 0)::(.ptr 0 0)::q17 ((dP e57 x1)::(dI x2)::t)))
abbrev Zs16 (x0 : List S48) (x1 : Int) (x2 : List S48) (x3 : Int) (t : List D) : List D := q1 ((dP e48 x0)::(dI x1)::q3 ((dB false)::q40 (q22 ((dP e48 x2)::(dI x3)::t))))
abbrev Zs17 (x0 : Bool) (x1 : List S111) (x2 : Int) (t : List D) : List D := q2 ((dB x0)::(.ptr 0 0)::q2 ((dB false)::q3 ((dP e111 x1)::(dI x2)::t)))
abbrev Zs18 (x0 : List S48) (x1 : Bool) (x2 : Int) (t : List D) : List D := (dP e48 x0)::q1 ((dB x1)::q3 ((.ptr 0 0)::q7 ((dP e48 x0)::(dI x2)::t)))
abbrev Zs19 (x0 x1 : List S111) (x2 : D) (x3 : Int) (t : List D) : List D := (dP e111 x0)::(dP e111 x1)::x2::q3 ((dI 0)::q4 ((dP e111 x0)::(dI x3)::t))
abbrev Zs20 (x0 x1 : List S111) (x2 : Int) (t : List D) : List D := (dP e111 x0)::(dP e111 x1)::q2 ((dB false)::q7 ((dI x2)::t))
abbrev Zs21 (x0 x1 : D) (t : List D) : List D := q1 ((.ptr 0 0)::x0::x1::t)
abbrev Zs22 (x0 : Bool) (x1 : List S111) (x2 x3 : Int) (x4 : Bool) (x5 x6 : D) (x7 : List S72) (x8 : Int) (x9 x10 : D) (x11 : Int) (x12 : List S48) (x13 : Int) (x14 : Bool) (t : List D) : List D := q2 ((dB x0)::(.ptr 0 0)::q2 ((dB false)::q1 ((.ptr 1 0)::(.ptr 2 0)::(dP e111 x1)::(dI x2)::(dI x3)::(dB x4)::x5::x6::(.ptr 0 3)::(dP e72 x7)::(.ptr 1 0)::(dI x8)::x9::x10::(.ptr 1 1)::(dI x11)::(.ptr 2 1)::(dP e48 x12)::(dI x13)::(dB x14)::(dB x14)::t)))
abbrev Zs23 (x0 : List S48) (x1 : List Bool) (t : List D) : List D := q1 ((dP e48 x0)::(.ptr 0 0)::q1 ((dB false)::(pilD 2 (List.map eB x1))::q40 (q30 t)))
abbrev Zs24 (x0 : D) (x1 : List Int) (x2 : Int) (t : List D) : List D := q2 (x0::(pilD 0 (List.map eI x1))::q4 ((dI x2)::t))
abbrev Zs25 (x0 : List S57) (x1 : Int) (t : List D) : List D := q2 ((.ptr 0 0)::q7 ((dP e57 x0)::(dI x1)::t))
abbrev Zs26 (x0 : List S72) (x1 : Int) (t : List D) : List D := q2 ((dI 0)::q30 ((dP e72 x0)::(dI x1)::t))
abbrev Zs27 (x0 : List S48) (x1 x2 : Int) (t : List D) : List D := q2 ((dI 0)::q2 ((dP e48 x0)::(dI x1)::(dI x2)::q17 t))
abbrev Zs28 (x0 : List S48) (x1 : Bool) (x2 x3 : Int) (x4 : Bool) (x5 x6 : D) (x7 : Int) (x8 x9 : Bool) (t : List D) : List D := (dP e48 x0)::q1 ((dB x1)::q3 ((.ptr 0 0)::(dI x2)::(.ptr 1 0)::q5 ((dP e48 x0)::(dI x3)::(dI x2)::(dB x4)::(dI x2)::x5::x6::(.ptr 1 0)::(dI x7)::(dB x8)::(dB x9)::(dB x9)::t)))
abbrev Zs29 (x0 : List Bool) (x1 : List S54) (x2 : Int) (t : List D) : List D := q4 ((dB false)::(pilD 6 (List.map eB x0))::q40 (q18 ((dP e54 x1)::(dI x2)::t)))
end Go.Abs
noncomputable section
namespace Go.Abs
set_option linter.unusedVariables false
set_option maxRecDepth 100000
def f71 (m : Nat) (a0 a1 : S111) : Option Int :=
 cnd (a0.fCt != a1.fCt)
 (some (w64 (a0.fCt - a1.fCt)))
 (some (w64 (a0.fSn - a1.fSn)))
abbrev X71 (n : Nat) : Cx := cxOf Proofs.Try.prog E 71 n
theorem ok71 (m : Nat) (a0 a1 : S111) (o : Int) (h : f71 m a0 a1 = some o) (n : Nat) (hn : m + 1 ≤ n) : Fn Proofs.Try.prog E n 71 [.v (e111 a0), .v (e111 a1)] (eI o) := by
 obtain ⟨n, rfl⟩ : ∃ q, n = q + 1 := ⟨n - 1, om⟩
 unfold f71 at h
 refine Fn.of kr kr kr ⟨(.v (.agg [(vI a0.fCt), (vI a0.fSn)]))::(.v (.agg [(vI a1.fCt), (vI a1.fSn)]))::u18 [], []⟩ kr (Sg 3 (Dn (Wp.sq (Sg 5 (Dn (Wp.cd h [2, 3, 4] 2 (fun h => ?_) (fun h => ?_)))))))
 ·exact Sg 6 (Dn (Wp.rt (sqQ.r (seqQ.r (fnQ.r' (X71 n) (fun z => (eI z)) h (RetOk.mk' (dI (w64 (a0.fCt - a1.fCt))) kr kr))))))
 ·exact Kn (Sg 6 (Dn (Wp.rt (fnQ.r' (X71 n) (fun z => (eI z)) h (RetOk.mk' (dI (w64 (a0.fSn - a1.fSn))) kr kr)))))
def f75c71_B1 (m : Nat) (a0 a1 : (List S111)) (v8 : Int) : Option (Stp Int (Int)) :=
 cnd (decide (v8 < (a0.length : Int)))
 (bnd (idx a0 v8) fun v18 =>
 cnd (decide (v8 ≥ (a1.length : Int)))
 (some (.ret 1))
 (bnd (idx a1 v8) fun v19 =>
 bnd (f71 m v18 v19) fun v20 =>
 cnd (v20 != 0)
 (some (.ret v20))
 (some (.nxt (w64 (v8 + 1))))))
 (some (.brk v8))
def f75c71 (m : Nat) (a0 a1 : (List S111)) : Option Int :=
 brk (iter (fun (y : Int) => f75c71_B1 m a0 a1 y) m 0) some fun y22 =>
 cnd (decide ((a0.length : Int) < (a1.length : Int)))
 (some (-1))
 (some 0)
abbrev X75c71 (n : Nat) : Cx := cxOf Proofs.Try.prog E 75 n
def C75c71 : Code := bodyOf Proofs.Try.prog 75
abbrev k75c71_0 : List Nat := [0, 1, 2, 6, 11, 12, 13]
theorem ok75c71 (m : Nat) (a0 a1 : (List S111)) (o : Int) (h : f75c71 m a0 a1 = some o) (n : Nat) (hn : m + 2 ≤ n) : Fn Proofs.Try.prog E n 75 [.v ((eL e111) a0), .v ((eL e111) a1), .v (.fn 71)] (eI o) := by
 obtain ⟨n, rfl⟩ : ∃ q, n = q + 1 := ⟨n - 1, om⟩
 unfold f75c71 at h
 refine Fn.of kr kr kr ⟨(dP e111 a0)::(dP e111 a1)::(.v (.fn 71))::u36 [], []⟩ kr (Sg 1 (Dn (Wp.sq (Sg 1 (Ops.on 2 (fun h0 e0 => (len_r (T := T) h0 80 112 .plain e111 a0 kr)) (Ops.sg 1 3 (Dn (Wp.bk 0 [0, 1, 6] 0 ?_))))))))
 have hLx21 : ∀ (kx10 : Nat) (v8 : Int)  (ox9 : Int ⊕ (Int)), iter (fun (y : Int) => f75c71_B1 m a0 a1 y) kx10 v8 = some ox9 → ∀ nx11, kx10 ≤ nx11 → (∀ r, ox9 = .inl r → ∀ σ, RetOk (X75c71 n) (resOf Proofs.Try.prog 75) (eI r) σ → (seqQ (X75c71 n) (cR (cR C75c71)) (fnQ (X75c71 n).E.T (resOf Proofs.Try.prog 75) (eI o))) .ret σ) → (∀ (y : Int) , ox9 = .inr y → (seqQ (X75c71 n) (cR (cR C75c71)) (fnQ (X75c71 n).E.T (resOf Proofs.Try.prog 75) (eI o))) .normal ⟨Zs19 a0 a1 (.v (.fn 71)) (a0.length : Int) ((dI y)::q25 []), []⟩) → Lp (X75c71 n) k75c71_0 0 (cL (cL (cR (cL (cR C75c71))))) nx11 ⟨Zs19 a0 a1 (.v (.fn 71)) (a0.length : Int) ((dI v8)::q25 []), []⟩ (blkQ (X75c71 n) 0 [0, 1, 6] 0 (seqQ (X75c71 n) (cR (cR C75c71)) (fnQ (X75c71 n).E.T (resOf Proofs.Try.prog 75) (eI o)))) := by
  intro kx10
  induction kx10 with
  | zero => intro v8  ox9 h; exact (iter_zero h).elim
  | succ kx10 ihx12 =>
   intro v8  ox9 h nx11 hnx15 hrx13 hxx14
   obtain ⟨nx11, rfl⟩ : ∃ q, nx11 = q + 1 := ⟨nx11 - 1, om⟩
   obtain ⟨sx16, h, hsx17⟩ := iter_some h
   have h : f75c71_B1 m a0 a1 v8 = some sx16 := h
   unfold f75c71_B1 at h
   refine Lp.succ (Sg 1 (Dn (Wp.sq (Wp.cd h k75c71_0 0 (fun h => ?_) (fun h => ?_)))))
   ·refine Kn (Wp.sq (Wp.bk 1 k75c71_0 0 (Sg 1 ?_)))
    obtain ⟨v18, ev18, h⟩ := bnd_some h
    refine Ops.on 2 (fun h0 e0 => (ix_r (T := T) h0 80 112 2 .plain e111 a0 v8 v18 ev18 kr kr (fun _ => rfl))) <| Ops.sg 4 6 (Dn (Wp.sq (Sg 2 (Ops.on 3 (fun h0 e0 => (len_r (T := T) h0 80 112 .plain e111 a1 kr)) (Ops.sg 1 4 (Dn (Wp.cd h [0, 1, 2, 6, 7, 8, 11, 12, 13] 1 (fun h => ?_) (fun h => ?_))))))))
    ·refine Sg 1 (Dn (Wp.rt (sqQ.r (seqQ.r (blkQ.r (seqQ.r ?_))))))
     cases h
     exact lpQ.r (blkQ.r (hrx13 _ hsx17 _ (RetOk.forget k75c71_0 kr (RetOk.mk' (dI 1) kr kr))))
    ·refine Kn (Sg 2 ?_)
     obtain ⟨v19, ev19, h⟩ := bnd_some h
     refine Ops.on 3 (fun h0 e0 => (ix_r (T := T) h0 80 112 2 .plain e111 a1 v8 v19 ev19 kr kr (fun _ => rfl))) <| Ops.sg 3 6 (Dn (Sg 3 ?_))
     obtain ⟨v20, ev20, h⟩ := bnd_some h
     refine Ops.on 4 (fun h0 e0 => (call_ok (E' := E) (h := h0) kr (Args.v (.agg [(vI v18.fCt), (vI v18.fSn)]) (e111 v18) kr (Args.v (.agg [(vI v19.fCt), (vI v19.fSn)]) (e111 v19) kr Args.nil)) (ok71 m v18 v19 v20 ev20 n om))) <| Ops.sg 1 5 (Dn (Sg 2 (Dn (Wp.cd h k75c71_0 2 (fun h => ?_) (fun h => ?_)))))
     ·refine Sg 2 (Dn (Wp.rt (sqQ.r (blkQ.r (seqQ.r ?_)))))
      cases h
      exact lpQ.r (blkQ.r (hrx13 _ hsx17 _ (RetOk.forget k75c71_0 kr (RetOk.mk' (dI v20) kr kr))))
     ·refine Wp.sk (sqQ.n' (blkQ.n' (seqQ.n (Rg 2 (Ops.dn (lpQ.m ⟨Zs19 a0 a1 (.v (.fn 71)) (a0.length : Int) ((dI (w64 (v8 + 1)))::q25 []), []⟩ ?_))))))
      cases h
      exact ihx12 (w64 (v8 + 1))  _ hsx17 _ om hrx13 hxx14
   ·refine Wp.ex 0 (sqQ.x (seqQ.x ?_))
    cases h
    exact lpQ.x (blkQ.w ⟨Zs19 a0 a1 (.v (.fn 71)) (a0.length : Int) ((dI v8)::q25 []), []⟩ (hxx14 v8  hsx17))
 refine Wp.loop' k75c71_0 0 kr ⟨Zs19 a0 a1 (.v (.fn 71)) (a0.length : Int) ((dI 0)::q25 []), []⟩ kr ?_
 rcases brk_some h with ⟨r23, er23, h⟩ | ⟨y22, ey22, h⟩
 ·refine hLx21 _ 0  _ er23 n om (fun r er σ hσ => ?_) (fun y  ey => by cases ey)
  cases er
  exact seqQ.r <| fnQ.r' (X75c71 n) (fun z => (eI z)) h hσ
 ·refine hLx21 _ 0  _ ey22 n om (fun r er => by cases er) (fun y  ey => ?_)
  cases ey
  refine seqQ.n (Wp.sq (Sg 1 (Ops.on 2 (fun h0 e0 => (len_r (T := T) h0 80 112 .plain e111 a0 kr)) (Ops.sg 1 3 (Ops.on 4 (fun h0 e0 => (len_r (T := T) h0 80 112 .plain e111 a1 kr)) (Ops.sg 1 5 (Dn (Wp.cd h [6] 0 (fun h => ?_) (fun h => ?_)))))))))
  ·exact Sg 1 (Dn (Wp.rt (sqQ.r (seqQ.r (fnQ.r' (X75c71 n) (fun z => (eI z)) h (RetOk.mk' (dI (-1)) kr kr))))))
  ·exact Kn (Sg 1 (Dn (Wp.rt (fnQ.r' (X75c71 n) (fun z => (eI z)) h (RetOk.mk' (dI 0) kr kr)))))
def f74 (m : Nat) (a0 a1 : (List S111)) : Option Int :=
 bnd (f75c71 m a0 a1) fun v1 =>
 some v1
abbrev X74 (n : Nat) : Cx := cxOf Proofs.Try.prog E 74 n
theorem ok74 (m : Nat) (a0 a1 : (List S111)) (o : Int) (h : f74 m a0 a1 = some o) (n : Nat) (hn : m + 3 ≤ n) : Fn Proofs.Try.prog E n 74 [.v ((eL e111) a0), .v ((eL e111) a1)] (eI o) := by
 obtain ⟨n, rfl⟩ : ∃ q, n = q + 1 := ⟨n - 1, om⟩
 unfold f74 at h
 refine Fn.of kr kr kr ⟨(dP e111 a0)::(dP e111 a1)::u6 [], []⟩ kr (Sg 1 (Dn (Sg 2 ?_)))
 obtain ⟨v1, ev1, h⟩ := bnd_some h
 exact Ops.on 3 (fun h0 e0 => (call_ok (E' := E) (h := h0) kr (Args.v (vP e111 a0) ((eL e111) a0) kr (Args.v (vP e111 a1) ((eL e111) a1) kr (Args.v (.fn 71) (.fn 71) kr Args.nil))) (ok75c71 m a0 a1 v1 ev1 n om))) <| Ops.sg 1 4 (Dn (Wp.rt (fnQ.r' (X74 n) (fun z => (eI z)) h (RetOk.mk' (dI v1) kr kr))))
def f78_B1 (m : Nat) (a0 a1 : (List S111)) (v6 : Int) : Option (Stp Bool (Int)) :=
 cnd (decide (v6 < (a0.length : Int)))
 (bnd (idx a0 v6) fun v16 =>
 bnd (idx a1 v6) fun v17 =>
 cnd (!((v16.fCt == v17.fCt) && ((v16.fSn == v17.fSn) && true)))
 (some (.ret false))
 (some (.nxt (w64 (v6 + 1)))))
 (some (.brk v6))
def f78 (m : Nat) (a0 a1 : (List S111)) : Option Bool :=
 cnd ((a0.length : Int) != (a1.length : Int))
 (some false)
 (brk (iter (fun (y : Int) => f78_B1 m a0 a1 y) m 0) some fun y19 =>
 some true)
abbrev X78 (n : Nat) : Cx := cxOf Proofs.Try.prog E 78 n
def C78 : Code := bodyOf Proofs.Try.prog 78
theorem ok78 (m : Nat) (a0 a1 : (List S111)) (o : Bool) (h : f78 m a0 a1 = some o) (n : Nat) (hn : m + 1 ≤ n) : Fn Proofs.Try.prog E n 78 [.v ((eL e111) a0), .v ((eL e111) a1)] (eB o) := by
 obtain ⟨n, rfl⟩ : ∃ q, n = q + 1 := ⟨n - 1, om⟩
 unfold f78 at h
 refine Fn.of kr kr kr ⟨(dP e111 a0)::(dP e111 a1)::u24 [], []⟩ kr (Sg 1 (Dn (Wp.sq (Sg 1 (Ops.on 2 (fun h0 e0 => (len_r (T := T) h0 80 112 .plain e111 a0 kr)) (Ops.sg 1 3 (Ops.on 4 (fun h0 e0 => (len_r (T := T) h0 80 112 .plain e111 a1 kr)) (Ops.sg 1 5 (Dn (Wp.cd h [0, 1, 4] 0 (fun h => ?_) (fun h => ?_)))))))))))
 ·exact Sg 1 (Dn (Wp.rt (sqQ.r (seqQ.r (fnQ.r' (X78 n) (fun z => (eB z)) h (RetOk.mk' (dB false) kr kr))))))
 ·refine Kn (Wp.sq (Sg 1 (Ops.on 2 (fun h0 e0 => (len_r (T := T) h0 80 112 .plain e111 a0 kr)) (Ops.sg 1 3 (Dn (Wp.bk 0 [4] 0 ?_))))))
  have hLx18 : ∀ (kx8 : Nat) (v6 : Int)  (ox7 : Bool ⊕ (Int)), iter (fun (y : Int) => f78_B1 m a0 a1 y) kx8 v6 = some ox7 → ∀ nx9, kx8 ≤ nx9 → (∀ r, ox7 = .inl r → ∀ σ, RetOk (X78 n) (resOf Proofs.Try.prog 78) (eB r) σ → (seqQ (X78 n) (cR (cR (cR C78))) (fnQ (X78 n).E.T (resOf Proofs.Try.prog 78) (eB o))) .ret σ) → (∀ (y : Int) , ox7 = .inr y → (seqQ (X78 n) (cR (cR (cR C78))) (fnQ (X78 n).E.T (resOf Proofs.Try.prog 78) (eB o))) .normal ⟨Zs20 a0 a1 (a0.length : Int) ((dI y)::q12 []), []⟩) → Lp (X78 n) [0, 1, 4, 12, 13] 0 (cL (cL (cR (cL (cR (cR C78)))))) nx9 ⟨Zs20 a0 a1 (a0.length : Int) ((dI v6)::q12 []), []⟩ (blkQ (X78 n) 0 [4] 0 (seqQ (X78 n) (cR (cR (cR C78))) (fnQ (X78 n).E.T (resOf Proofs.Try.prog 78) (eB o)))) := by
   intro kx8
   induction kx8 with
   | zero => intro v6  ox7 h; exact (iter_zero h).elim
   | succ kx8 ihx10 =>
    intro v6  ox7 h nx9 hnx13 hrx11 hxx12
    obtain ⟨nx9, rfl⟩ : ∃ q, nx9 = q + 1 := ⟨nx9 - 1, om⟩
    obtain ⟨sx14, h, hsx15⟩ := iter_some h
    have h : f78_B1 m a0 a1 v6 = some sx14 := h
    unfold f78_B1 at h
    refine Lp.succ (Sg 1 (Dn (Wp.sq (Wp.cd h [0, 1, 4, 12, 13] 0 (fun h => ?_) (fun h => ?_)))))
    ·refine Kn (Wp.sq (Wp.bk 1 [0, 1, 4, 12, 13] 0 (Sg 2 (Dn (Sg 2 ?_)))))
     obtain ⟨v16, ev16, h⟩ := bnd_some h
     refine Ops.on 3 (fun h0 e0 => (ix_r (T := T) h0 80 112 2 .plain e111 a0 v6 v16 ev16 kr kr (fun _ => rfl))) <| Ops.sg 3 6 ?_
     obtain ⟨v17, ev17, h⟩ := bnd_some h
     refine Ops.on 7 (fun h0 e0 => (ix_r (T := T) h0 80 112 2 .plain e111 a1 v6 v17 ev17 kr kr (fun _ => rfl))) <| Ops.sg 2 9 (Dn (Wp.cd h [0, 1, 4, 12, 13] 0 (fun h => ?_) (fun h => ?_)))
     ·refine Sg 1 (Dn (Wp.rt (sqQ.r (blkQ.r (seqQ.r ?_)))))
      cases h
      exact lpQ.r (blkQ.r (hrx11 _ hsx15 _ (RetOk.forget [0, 1, 4, 12, 13] kr (RetOk.mk' (dB false) kr kr))))
     ·refine Wp.sk (sqQ.n' (blkQ.n' (seqQ.n (Rg 2 (Ops.dn (lpQ.m ⟨Zs20 a0 a1 (a0.length : Int) ((dI (w64 (v6 + 1)))::q12 []), []⟩ ?_))))))
      cases h
      exact ihx10 (w64 (v6 + 1))  _ hsx15 _ om hrx11 hxx12
    ·refine Wp.ex 0 (sqQ.x (seqQ.x ?_))
     cases h
     exact lpQ.x (blkQ.w ⟨Zs20 a0 a1 (a0.length : Int) ((dI v6)::q12 []), []⟩ (hxx12 v6  hsx15))
  refine Wp.loop' [0, 1, 4, 12, 13] 0 kr ⟨Zs20 a0 a1 (a0.length : Int) ((dI 0)::q12 []), []⟩ kr ?_
  rcases brk_some h with ⟨r20, er20, h⟩ | ⟨y19, ey19, h⟩
  ·refine hLx18 _ 0  _ er20 n om (fun r er σ hσ => ?_) (fun y  ey => by cases ey)
   cases er
   exact seqQ.r <| fnQ.r' (X78 n) (fun z => (eB z)) h hσ
  ·refine hLx18 _ 0  _ ey19 n om (fun r er => by cases er) (fun y  ey => ?_)
   cases ey
   exact seqQ.n (Sg 1 (Dn (Wp.rt (fnQ.r' (X78 n) (fun z => (eB z)) h (RetOk.mk' (dB true) kr kr)))))
def f77 (m : Nat) (a0 a1 : (List S111)) : Option Bool :=
 bnd (f78 m a0 a1) fun v1 =>
 some v1
abbrev X77 (n : Nat) : Cx := cxOf Proofs.Try.prog E 77 n
theorem ok77 (m : Nat) (a0 a1 : (List S111)) (o : Bool) (h : f77 m a0 a1 = some o) (n : Nat) (hn : m + 2 ≤ n) : Fn Proofs.Try.prog E n 77 [.v ((eL e111) a0), .v ((eL e111) a1)] (eB o) := by
 obtain ⟨n, rfl⟩ : ∃ q, n = q + 1 := ⟨n - 1, om⟩
 unfold f77 at h
 refine Fn.of kr kr kr ⟨(dP e111 a0)::(dP e111 a1)::u6 [], []⟩ kr (Sg 1 (Dn (Sg 2 ?_)))
 obtain ⟨v1, ev1, h⟩ := bnd_some h
 exact Ops.on 3 (fun h0 e0 => (call_ok (E' := E) (h := h0) kr (Args.v (vP e111 a0) ((eL e111) a0) kr (Args.v (vP e111 a1) ((eL e111) a1) kr Args.nil)) (ok78 m a0 a1 v1 ev1 n om))) <| Ops.sg 1 4 (Dn (Wp.rt (fnQ.r' (X77 n) (fun z => (eB z)) h (RetOk.mk' (dB v1) kr kr))))
def f49_B1 (m : Nat) (a0 : S82) (v7 : (List Int)) (v8 : Int) : Option (Stp ByteArray ((List Int) × Int)) :=
 cnd (decide (v8 < (a0.fLf.length : Int)))
 (bnd (idx a0.fLf v8) fun v18 =>
 bnd (app 1 v7 ([IntKind.u8.wrap v18])) fun v19 =>
 some (.nxt (v19, w64 (v8 + 1))))
 (some (.brk (v7, v8)))
def f49_B2 (m : Nat) (a0 : S82) (v29 : (List Int)) (v30 : Int) : Option (Stp ByteArray ((List Int) × Int)) :=
 cnd (decide (v30 < (a0.fBad.length : Int)))
 (bnd (idx a0.fBad v30) fun v40 =>
 bnd (app 1 v29 ([IntKind.u8.wrap (w64 (w64 (16 * v40.fCt) + v40.fSn))])) fun v41 =>
 some (.nxt (v41, w64 (v30 + 1))))
 (some (.brk (v29, v30)))
def f49_B3 (m : Nat) (v107 : (List S111)) (v114 : (List Int)) (v115 : Int) : Option (Stp ByteArray ((List Int) × Int)) :=
 cnd (decide (v115 < (v107.length : Int)))
 (bnd (idx v107 v115) fun v125 =>
 bnd (app 1 v114 ([IntKind.u8.wrap (w64 (w64 (16 * v125.fCt) + v125.fSn))])) fun v126 =>
 some (.nxt (v126, w64 (v115 + 1))))
 (some (.brk (v114, v115)))
def f49_B4 (m : Nat) (a0 : S82) (v96 : (List Int)) (v97 : Int) : Option (Stp ByteArray ((List Int) × Int)) :=
 cnd (decide (v97 < (a0.fNd.length : Int)))
 (bnd (idx a0.fNd v97) fun v107 =>
 brk (iter (fun (y : (List Int) × Int) => f49_B3 m v107 y.1 y.2) m (v96, 0)) (fun r => some (.ret r)) fun y128 =>
 bnd (app 1 y128.1 [254]) fun v130 =>
 some (.nxt (v130, w64 (v97 + 1))))
 (some (.brk (v96, v97)))
def f49 (m : Nat) (a0 : S82) : Option ByteArray :=
 brk (iter (fun (y : (List Int) × Int) => f49_B1 m a0 y.1 y.2) m ([], 0)) some fun y21 =>
 brk (iter (fun (y : (List Int) × Int) => f49_B2 m a0 y.1 y.2) m (y21.1, 0)) some fun y43 =>
 bnd (app 1 y43.1 [255]) fun v45 =>
 brk (iter (fun (y : (List Int) × Int) => f49_B4 m a0 y.1 y.2) m (v45, 0)) some fun y132 =>
 some (strI y132.1)
abbrev X49 (n : Nat) : Cx := cxOf Proofs.Try.prog E 49 n
def C49 : Code := bodyOf Proofs.Try.prog 49
abbrev p49_0 : Code := cR (cR (cR (cR (cR (cR C49)))))
abbrev p49_1 : Code := cL (cL (cR (cL (cR (cR (cR (cR (cR C49))))))))
abbrev p49_2 : Code := cR (cR (cR p49_1))
abbrev p49_3 : Code := cR (cR (cL (cL (cR (cR p49_1)))))
abbrev b49_0 (w0 : S82) : AObj := .cells [(dP eI w0.fLf), (dP e111 w0.fBad), (dP (eL e111) w0.fNd)]
abbrev k49_0 : List Nat := [2, 3, 47, 48, 49]
abbrev k49_1 : List Nat := [2, 3, 47, 48, 49, 53, 54, 55]
theorem ok49 (m : Nat) (a0 : S82) (o : ByteArray) (h : f49 m a0 = some o) (n : Nat) (hn : m + 1 ≤ n) : Fn Proofs.Try.prog E n 49 [.v (e82 a0)] (eS o) := by
 obtain ⟨n, rfl⟩ : ∃ q, n = q + 1 := ⟨n - 1, om⟩
 unfold f49 at h
 refine Fn.of kr kr kr ⟨(.v (.agg [(vP eI a0.fLf), (vP e111 a0.fBad), (vP (eL e111) a0.fNd)]))::u40 (u35 []), []⟩ kr (Sg 2 (Dn (Sg 1 (Dn (Wp.sq (Sg 2 (Ops.on 3 (fun h0 e0 => (len_r (T := T) h0 62 3 .plain eI a0.fLf kr)) (Ops.sg 1 4 (Dn (Wp.bk 0 [1, 2, 3] 1 ?_))))))))))
 have hLx20 : ∀ (kx10 : Nat) (v7 : (List Int)) (v8 : Int)  (ox9 : ByteArray ⊕ ((List Int) × Int)), iter (fun (y : (List Int) × Int) => f49_B1 m a0 y.1 y.2) kx10 (v7, v8) = some ox9 → ∀ nx11, kx10 ≤ nx11 → (∀ r, ox9 = .inl r → ∀ σ, RetOk (X49 n) (resOf Proofs.Try.prog 49) (eS r) σ → (seqQ (X49 n) (cR (cR (cR C49))) (fnQ (X49 n).E.T (resOf Proofs.Try.prog 49) (eS o))) .ret σ) → (∀ (y : (List Int) × Int) , ox9 = .inr y → (seqQ (X49 n) (cR (cR (cR C49))) (fnQ (X49 n).E.T (resOf Proofs.Try.prog 49) (eS o))) .normal ⟨Zs21 (.v (.str (⟨#[]⟩ : ByteArray))) (appD 1 (List.map (eK .u8) y.1)) (q40 (q32 [])), [(b49_0 a0), (appO 1 (List.map (eK .u8) y.1))]⟩) → Lp (X49 n) [1, 2, 3, 13, 14, 15] 1 (cL (cL (cR (cL (cR (cR C49)))))) nx11 ⟨Zs21 (.v (.str (⟨#[]⟩ : ByteArray))) (appD 1 (List.map (eK .u8) v7)) (q9 ((dP eI a0.fLf)::(dI (a0.fLf.length : Int))::(dI v8)::q40 (q20 []))), [(b49_0 a0), (appO 1 (List.map (eK .u8) v7))]⟩ (blkQ (X49 n) 0 [1, 2, 3] 1 (seqQ (X49 n) (cR (cR (cR C49))) (fnQ (X49 n).E.T (resOf Proofs.Try.prog 49) (eS o)))) := by
  intro kx10
  induction kx10 with
  | zero => intro v7 v8  ox9 h; exact (iter_zero h).elim
  | succ kx10 ihx12 =>
   intro v7 v8  ox9 h nx11 hnx15 hrx13 hxx14
   obtain ⟨nx11, rfl⟩ : ∃ q, nx11 = q + 1 := ⟨nx11 - 1, om⟩
   obtain ⟨sx16, h, hsx17⟩ := iter_some h
   have h : f49_B1 m a0 v7 v8 = some sx16 := h
   unfold f49_B1 at h
   refine Lp.succ (Sg 1 (Dn (Wp.sq (Wp.cd h [1, 2, 3, 13, 14, 15] 2 (fun h => ?_) (fun h => ?_)))))
   ·refine Wp.sk (sqQ.n ⟨Zs21 (.v (.str (⟨#[]⟩ : ByteArray))) (appD 2 (List.map (eK .u8) v7)) (q9 ((dP eI a0.fLf)::(dI (a0.fLf.length : Int))::(dI v8)::q40 (q20 []))), [(b49_0 a0), .dead, (appO 1 (List.map (eK .u8) v7))]⟩ (by generalize v7 = z0; cases z0 <;> kernel_rfl) (seqQ.n (Wp.sq (Wp.bk 1 [1, 2, 3, 13, 14, 15] 3 (Wp.sq (Wp.rg ?_))))))
    obtain ⟨v18, ev18, h⟩ := bnd_some h
    refine Ops.on 1 (fun h0 e0 => (ix_r (T := T) h0 62 3 1 .plain eI a0.fLf v8 v18 ev18 kr kr (fun _ => rfl))) <| Ops.sg 2 3 (Dn (Rg 4 ?_))
    obtain ⟨v19, ev19, h⟩ := bnd_some h
    refine Ops.on 5 (fun h0 e0 => (app_r (T := T) (g := .nil) h0 110 5 2 1 ti5 .nonfull (eK .u8) v7 ([IntKind.u8.wrap v18]) v19 ev19 kr kr kr kr (fun _ => rfl) (hq_of e0 kr))) <| Ops.sg 1 6 (Ops.dn (blkQ.n ⟨Zs21 (.v (.str (⟨#[]⟩ : ByteArray))) (appD 3 (List.map (eK .u8) v19)) (q9 ((dP eI a0.fLf)::(dI (a0.fLf.length : Int))::(dI v8)::q40 (q20 []))), [(b49_0 a0), .dead, .dead, (appO 1 (List.map (eK .u8) v19))]⟩ (by generalize v19 = z0; cases z0 <;> kernel_rfl) (seqQ.n (Rg 2 (Ops.dn (lpQ.n ⟨Zs21 (.v (.str (⟨#[]⟩ : ByteArray))) (appD 1 (List.map (eK .u8) v19)) (q9 ((dP eI a0.fLf)::(dI (a0.fLf.length : Int))::(dI (w64 (v8 + 1)))::q40 (q20 []))), [(b49_0 a0), (appO 1 (List.map (eK .u8) v19))]⟩ (by generalize v19 = z0; cases z0 <;> kernel_rfl) ?_))))))
    cases h
    exact ihx12 v19 (w64 (v8 + 1))  _ hsx17 _ om hrx13 hxx14
   ·refine Wp.ex 0 (sqQ.x (seqQ.x ?_))
    cases h
    exact lpQ.x (blkQ.x ⟨Zs21 (.v (.str (⟨#[]⟩ : ByteArray))) (appD 1 (List.map (eK .u8) v7)) (q40 (q32 [])), [(b49_0 a0), (appO 1 (List.map (eK .u8) v7))]⟩ (by generalize v7 = z0; cases z0 <;> kernel_rfl) (hxx14 (v7, v8)  hsx17))
 refine Wp.loop' [1, 2, 3, 13, 14, 15] 1 kr ⟨q1 ((.ptr 0 0)::(.v (.str (⟨#[]⟩ : ByteArray)))::(appD 1 (List.map (eK .u8) []))::q9 ((dP eI a0.fLf)::(dI (a0.fLf.length : Int))::(dI 0)::q40 (q20 []))), [(b49_0 a0), .dead]⟩ kr ?_
 rcases brk_some h with ⟨r22, er22, h⟩ | ⟨y21, ey21, h⟩
 ·refine hLx20 _ [] 0  _ er22 n om (fun r er σ hσ => ?_) (fun y  ey => by cases ey)
  cases er
  exact seqQ.r <| fnQ.r' (X49 n) (fun z => (eS z)) h hσ
 ·refine hLx20 _ [] 0  _ ey21 n om (fun r er => by cases er) (fun y  ey => ?_)
  cases ey
  refine seqQ.n (Wp.sq (Sg 2 (Ops.on 3 (fun h0 e0 => (len_r (T := T) h0 80 112 .plain e111 a0.fBad kr)) (Ops.sg 1 4 (Dn (Wp.bk 2 [1, 2, 3] 2 ?_))))))
  have hLx42 : ∀ (kx32 : Nat) (v29 : (List Int)) (v30 : Int)  (ox31 : ByteArray ⊕ ((List Int) × Int)), iter (fun (y : (List Int) × Int) => f49_B2 m a0 y.1 y.2) kx32 (v29, v30) = some ox31 → ∀ nx33, kx32 ≤ nx33 → (∀ r, ox31 = .inl r → ∀ σ, RetOk (X49 n) (resOf Proofs.Try.prog 49) (eS r) σ → (seqQ (X49 n) (cR (cR (cR (cR C49)))) (fnQ (X49 n).E.T (resOf Proofs.Try.prog 49) (eS o))) .ret σ) → (∀ (y : (List Int) × Int) , ox31 = .inr y → (seqQ (X49 n) (cR (cR (cR (cR C49)))) (fnQ (X49 n).E.T (resOf Proofs.Try.prog 49) (eS o))) .normal ⟨Zs21 (.v (.str (⟨#[]⟩ : ByteArray))) (appD 2 (List.map (eK .u8) y.1)) (q40 (q32 [])), [(b49_0 a0), .dead, (appO 1 (List.map (eK .u8) y.1))]⟩) → Lp (X49 n) [1, 2, 3, 26, 27, 28] 2 (cL (cL (cR (cL (cR (cR (cR C49))))))) nx33 ⟨Zs21 (.v (.str (⟨#[]⟩ : ByteArray))) (appD 2 (List.map (eK .u8) v29)) (q22 ((dP e111 a0.fBad)::(dI (a0.fBad.length : Int))::(dI v30)::q40 (q7 []))), [(b49_0 a0), .dead, (appO 1 (List.map (eK .u8) v29))]⟩ (blkQ (X49 n) 2 [1, 2, 3] 2 (seqQ (X49 n) (cR (cR (cR (cR C49)))) (fnQ (X49 n).E.T (resOf Proofs.Try.prog 49) (eS o)))) := by
   intro kx32
   induction kx32 with
   | zero => intro v29 v30  ox31 h; exact (iter_zero h).elim
   | succ kx32 ihx34 =>
    intro v29 v30  ox31 h nx33 hnx37 hrx35 hxx36
    obtain ⟨nx33, rfl⟩ : ∃ q, nx33 = q + 1 := ⟨nx33 - 1, om⟩
    obtain ⟨sx38, h, hsx39⟩ := iter_some h
    have h : f49_B2 m a0 v29 v30 = some sx38 := h
    unfold f49_B2 at h
    refine Lp.succ (Sg 1 (Dn (Wp.sq (Wp.cd h [1, 2, 3, 26, 27, 28] 3 (fun h => ?_) (fun h => ?_)))))
    ·refine Wp.sk (sqQ.n ⟨Zs21 (.v (.str (⟨#[]⟩ : ByteArray))) (appD 3 (List.map (eK .u8) v29)) (q22 ((dP e111 a0.fBad)::(dI (a0.fBad.length : Int))::(dI v30)::q40 (q7 []))), [(b49_0 a0), .dead, .dead, (appO 1 (List.map (eK .u8) v29))]⟩ (by generalize v29 = z0; cases z0 <;> kernel_rfl) (seqQ.n (Wp.sq (Wp.bk 3 [1, 2, 3, 26, 27, 28] 4 (Wp.sq (Wp.rg ?_))))))
     obtain ⟨v40, ev40, h⟩ := bnd_some h
     refine Ops.on 1 (fun h0 e0 => (ix_r (T := T) h0 80 112 2 .plain e111 a0.fBad v30 v40 ev40 kr kr (fun _ => rfl))) <| Ops.sg 3 4 (Dn (Rg 9 ?_))
     obtain ⟨v41, ev41, h⟩ := bnd_some h
     refine Ops.on 10 (fun h0 e0 => (app_r (T := T) (g := .nil) h0 110 5 3 1 ti5 .nonfull (eK .u8) v29 ([IntKind.u8.wrap (w64 (w64 (16 * v40.fCt) + v40.fSn))]) v41 ev41 kr kr kr kr (fun _ => rfl) (hq_of e0 kr))) <| Ops.sg 1 11 (Ops.dn (blkQ.n ⟨Zs21 (.v (.str (⟨#[]⟩ : ByteArray))) (appD 4 (List.map (eK .u8) v41)) (q22 ((dP e111 a0.fBad)::(dI (a0.fBad.length : Int))::(dI v30)::q40 (q7 []))), [(b49_0 a0), .dead, .dead, .dead, (appO 1 (List.map (eK .u8) v41))]⟩ (by generalize v41 = z0; cases z0 <;> kernel_rfl) (seqQ.n (Rg 2 (Ops.dn (lpQ.n ⟨Zs21 (.v (.str (⟨#[]⟩ : ByteArray))) (appD 2 (List.map (eK .u8) v41)) (q22 ((dP e111 a0.fBad)::(dI (a0.fBad.length : Int))::(dI (w64 (v30 + 1)))::q40 (q7 []))), [(b49_0 a0), .dead, (appO 1 (List.map (eK .u8) v41))]⟩ (by generalize v41 = z0; cases z0 <;> kernel_rfl) ?_))))))
     cases h
     exact ihx34 v41 (w64 (v30 + 1))  _ hsx39 _ om hrx35 hxx36
    ·refine Wp.ex 2 (sqQ.x (seqQ.x ?_))
     cases h
     exact lpQ.x (blkQ.x ⟨Zs21 (.v (.str (⟨#[]⟩ : ByteArray))) (appD 2 (List.map (eK .u8) v29)) (q40 (q32 [])), [(b49_0 a0), .dead, (appO 1 (List.map (eK .u8) v29))]⟩ (by generalize v29 = z0; cases z0 <;> kernel_rfl) (hxx36 (v29, v30)  hsx39))
  refine Wp.loop' [1, 2, 3, 26, 27, 28] 2 kr ⟨Zs21 (.v (.str (⟨#[]⟩ : ByteArray))) (appD 2 (List.map (eK .u8) y21.1)) (q22 ((dP e111 a0.fBad)::(dI (a0.fBad.length : Int))::(dI 0)::q40 (q7 []))), [(b49_0 a0), .dead, (appO 1 (List.map (eK .u8) y21.1))]⟩ (by generalize y21.1 = z0; cases z0 <;> kernel_rfl) ?_
  rcases brk_some h with ⟨r44, er44, h⟩ | ⟨y43, ey43, h⟩
  ·refine hLx42 _ y21.1 0  _ er44 n om (fun r er σ hσ => ?_) (fun y  ey => by cases ey)
   cases er
   exact seqQ.r <| fnQ.r' (X49 n) (fun z => (eS z)) h hσ
  ·refine hLx42 _ y21.1 0  _ ey43 n om (fun r er => by cases er) (fun y  ey => ?_)
   cases ey
   refine seqQ.n (Sg 2 ?_)
   obtain ⟨v45, ev45, h⟩ := bnd_some h
   refine Ops.on 3 (fun h0 e0 => (app_r (T := T) (g := .nil) h0 110 5 2 1 ti5 .nonfull (eK .u8) y43.1 [255] v45 ev45 kr kr kr kr (fun _ => rfl) (hq_of e0 kr))) <| Ops.sg 1 4 (Dn (Wp.sq (Sg 2 (Ops.on 3 (fun h0 e0 => (len_r (T := T) h0 81 80 .plain (eL e111) a0.fNd kr)) (Ops.sg 1 4 (Dn (Wp.bk 4 [2, 3] 4 ?_)))))))
   have hLx131 : ∀ (kx99 : Nat) (v96 : (List Int)) (v97 : Int)  (ox98 : ByteArray ⊕ ((List Int) × Int)), iter (fun (y : (List Int) × Int) => f49_B4 m a0 y.1 y.2) kx99 (v96, v97) = some ox98 → ∀ nx100, kx99 ≤ nx100 → (∀ r, ox98 = .inl r → ∀ σ, RetOk (X49 n) (resOf Proofs.Try.prog 49) (eS r) σ → (seqQ (X49 n) p49_0 (fnQ (X49 n).E.T (resOf Proofs.Try.prog 49) (eS o))) .ret σ) → (∀ (y : (List Int) × Int) , ox98 = .inr y → (seqQ (X49 n) p49_0 (fnQ (X49 n).E.T (resOf Proofs.Try.prog 49) (eS o))) .normal ⟨q2 ((.v (.str (⟨#[]⟩ : ByteArray)))::(appD 4 (List.map (eK .u8) y.1))::q40 (q32 [])), [(b49_0 a0), .dead, .dead, .dead, (appO 1 (List.map (eK .u8) y.1))]⟩) → Lp (X49 n) k49_0 4 p49_1 nx100 ⟨Zs11 (.v (.str (⟨#[]⟩ : ByteArray))) (appD 4 (List.map (eK .u8) v96)) a0.fNd (a0.fNd.length : Int) v97 (q26 []), [(b49_0 a0), .dead, .dead, .dead, (appO 1 (List.map (eK .u8) v96))]⟩ (blkQ (X49 n) 4 [2, 3] 4 (seqQ (X49 n) p49_0 (fnQ (X49 n).E.T (resOf Proofs.Try.prog 49) (eS o)))) := by
    intro kx99
    induction kx99 with
    | zero => intro v96 v97  ox98 h; exact (iter_zero h).elim
    | succ kx99 ihx101 =>
     intro v96 v97  ox98 h nx100 hnx104 hrx102 hxx103
     obtain ⟨nx100, rfl⟩ : ∃ q, nx100 = q + 1 := ⟨nx100 - 1, om⟩
     obtain ⟨sx105, h, hsx106⟩ := iter_some h
     have h : f49_B4 m a0 v96 v97 = some sx105 := h
     unfold f49_B4 at h
     refine Lp.succ (Sg 1 (Dn (Wp.sq (Wp.cd h k49_0 5 (fun h => ?_) (fun h => ?_)))))
     ·refine Wp.sk (sqQ.n ⟨Zs11 (.v (.str (⟨#[]⟩ : ByteArray))) (appD 5 (List.map (eK .u8) v96)) a0.fNd (a0.fNd.length : Int) v97 (q26 []), [(b49_0 a0), .dead, .dead, .dead, .dead, (appO 1 (List.map (eK .u8) v96))]⟩ (by generalize v96 = z0; cases z0 <;> kernel_rfl) (seqQ.n (Wp.sq (Wp.bk 5 k49_0 6 (Wp.sq (Wp.rg ?_))))))
      obtain ⟨v107, ev107, h⟩ := bnd_some h
      refine Ops.on 1 (fun h0 e0 => (ix_r (T := T) h0 81 80 1 .plain (eL e111) a0.fNd v97 v107 ev107 kr kr (fun _ => rfl))) <| Ops.sg 2 3 (Dn (Wp.sq (Sg 1 (Ops.on 2 (fun h0 e0 => (len_r (T := T) h0 80 112 .plain e111 v107 kr)) (Ops.sg 1 3 (Dn (Wp.bk 6 k49_0 6 ?_)))))))
      have hLx127 : ∀ (kx117 : Nat) (v114 : (List Int)) (v115 : Int)  (ox116 : ByteArray ⊕ ((List Int) × Int)), iter (fun (y : (List Int) × Int) => f49_B3 m v107 y.1 y.2) kx117 (v114, v115) = some ox116 → ∀ nx118, kx117 ≤ nx118 → (∀ r, ox116 = .inl r → ∀ σ, RetOk (X49 n) (resOf Proofs.Try.prog 49) (eS r) σ → (seqQ (X49 n) p49_3 (blkQ (X49 n) 5 k49_0 6 (seqQ (X49 n) p49_2 (lpQ (X49 n) k49_0 4 p49_1 nx100 (blkQ (X49 n) 4 [2, 3] 4 (seqQ (X49 n) p49_0 (fnQ (X49 n).E.T (resOf Proofs.Try.prog 49) (eS o)))))))) .ret σ) → (∀ (y : (List Int) × Int) , ox116 = .inr y → (seqQ (X49 n) p49_3 (blkQ (X49 n) 5 k49_0 6 (seqQ (X49 n) p49_2 (lpQ (X49 n) k49_0 4 p49_1 nx100 (blkQ (X49 n) 4 [2, 3] 4 (seqQ (X49 n) p49_0 (fnQ (X49 n).E.T (resOf Proofs.Try.prog 49) (eS o)))))))) .normal ⟨Zs11 (.v (.str (⟨#[]⟩ : ByteArray))) (appD 6 (List.map (eK .u8) y.1)) a0.fNd (a0.fNd.length : Int) v97 (q26 []), [(b49_0 a0), .dead, .dead, .dead, .dead, .dead, (appO 1 (List.map (eK .u8) y.1))]⟩) → Lp (X49 n) k49_1 6 (cL (cL (cR (cL (cR (cL (cL (cR (cR p49_1))))))))) nx118 ⟨Zs11 (.v (.str (⟨#[]⟩ : ByteArray))) (appD 6 (List.map (eK .u8) v114)) a0.fNd (a0.fNd.length : Int) v97 (q3 ((dP e111 v107)::(dI (v107.length : Int))::(dI v115)::q20 [])), [(b49_0 a0), .dead, .dead, .dead, .dead, .dead, (appO 1 (List.map (eK .u8) v114))]⟩ (blkQ (X49 n) 6 k49_0 6 (seqQ (X49 n) p49_3 (blkQ (X49 n) 5 k49_0 6 (seqQ (X49 n) p49_2 (lpQ (X49 n) k49_0 4 p49_1 nx100 (blkQ (X49 n) 4 [2, 3] 4 (seqQ (X49 n) p49_0 (fnQ (X49 n).E.T (resOf Proofs.Try.prog 49) (eS o))))))))) := by
       intro kx117
       induction kx117 with
       | zero => intro v114 v115  ox116 h; exact (iter_zero h).elim
       | succ kx117 ihx119 =>
        intro v114 v115  ox116 h nx118 hnx122 hrx120 hxx121
        obtain ⟨nx118, rfl⟩ : ∃ q, nx118 = q + 1 := ⟨nx118 - 1, om⟩
        obtain ⟨sx123, h, hsx124⟩ := iter_some h
        have h : f49_B3 m v107 v114 v115 = some sx123 := h
        unfold f49_B3 at h
        refine Lp.succ (Sg 1 (Dn (Wp.sq (Wp.cd h k49_1 7 (fun h => ?_) (fun h => ?_)))))
        ·refine Wp.sk (sqQ.n ⟨Zs11 (.v (.str (⟨#[]⟩ : ByteArray))) (appD 7 (List.map (eK .u8) v114)) a0.fNd (a0.fNd.length : Int) v97 (q3 ((dP e111 v107)::(dI (v107.length : Int))::(dI v115)::q20 [])), [(b49_0 a0), .dead, .dead, .dead, .dead, .dead, .dead, (appO 1 (List.map (eK .u8) v114))]⟩ (by generalize v114 = z0; cases z0 <;> kernel_rfl) (seqQ.n (Wp.sq (Wp.bk 7 k49_1 8 (Wp.sq (Wp.rg ?_))))))
         obtain ⟨v125, ev125, h⟩ := bnd_some h
         refine Ops.on 1 (fun h0 e0 => (ix_r (T := T) h0 80 112 2 .plain e111 v107 v115 v125 ev125 kr kr (fun _ => rfl))) <| Ops.sg 3 4 (Dn (Rg 9 ?_))
         obtain ⟨v126, ev126, h⟩ := bnd_some h
         refine Ops.on 10 (fun h0 e0 => (app_r (T := T) (g := .nil) h0 110 5 7 1 ti5 .nonfull (eK .u8) v114 ([IntKind.u8.wrap (w64 (w64 (16 * v125.fCt) + v125.fSn))]) v126 ev126 kr kr kr kr (fun _ => rfl) (hq_of e0 kr))) <| Ops.sg 1 11 (Ops.dn (blkQ.n ⟨Zs11 (.v (.str (⟨#[]⟩ : ByteArray))) (appD 8 (List.map (eK .u8) v126)) a0.fNd (a0.fNd.length : Int) v97 (q3 ((dP e111 v107)::(dI (v107.length : Int))::(dI v115)::q20 [])), [(b49_0 a0), .dead, .dead, .dead, .dead, .dead, .dead, .dead, (appO 1 (List.map (eK .u8) v126))]⟩ (by generalize v126 = z0; cases z0 <;> kernel_rfl) (seqQ.n (Rg 2 (Ops.dn (lpQ.n ⟨Zs11 (.v (.str (⟨#[]⟩ : ByteArray))) (appD 6 (List.map (eK .u8) v126)) a0.fNd (a0.fNd.length : Int) v97 (q3 ((dP e111 v107)::(dI (v107.length : Int))::(dI (w64 (v115 + 1)))::q20 [])), [(b49_0 a0), .dead, .dead, .dead, .dead, .dead, (appO 1 (List.map (eK .u8) v126))]⟩ (by generalize v126 = z0; cases z0 <;> kernel_rfl) ?_))))))
         cases h
         exact ihx119 v126 (w64 (v115 + 1))  _ hsx124 _ om hrx120 hxx121
        ·refine Wp.ex 6 (sqQ.x (seqQ.x ?_))
         cases h
         exact lpQ.x (blkQ.x ⟨Zs11 (.v (.str (⟨#[]⟩ : ByteArray))) (appD 6 (List.map (eK .u8) v114)) a0.fNd (a0.fNd.length : Int) v97 (q26 []), [(b49_0 a0), .dead, .dead, .dead, .dead, .dead, (appO 1 (List.map (eK .u8) v114))]⟩ (by generalize v114 = z0; cases z0 <;> kernel_rfl) (hxx121 (v114, v115)  hsx124))
      refine Wp.loop' k49_1 6 kr ⟨Zs11 (.v (.str (⟨#[]⟩ : ByteArray))) (appD 6 (List.map (eK .u8) v96)) a0.fNd (a0.fNd.length : Int) v97 (q3 ((dP e111 v107)::(dI (v107.length : Int))::(dI 0)::q20 [])), [(b49_0 a0), .dead, .dead, .dead, .dead, .dead, (appO 1 (List.map (eK .u8) v96))]⟩ (by generalize v96 = z0; cases z0 <;> kernel_rfl) ?_
      rcases brk_some h with ⟨r129, er129, h⟩ | ⟨y128, ey128, h⟩
      ·refine hLx127 _ v96 0  _ er129 n om (fun r er σ hσ => ?_) (fun y  ey => by cases ey)
       cases er
       refine seqQ.r (blkQ.r (seqQ.r (lpQ.r ?_)))
       cases h
       exact blkQ.r <| hrx102 _ hsx106 _ (RetOk.forget k49_0 kr hσ)
      ·refine hLx127 _ v96 0  _ ey128 n om (fun r er => by cases er) (fun y  ey => ?_)
       cases ey
       refine seqQ.n (Rg 2 ?_)
       obtain ⟨v130, ev130, h⟩ := bnd_some h
       refine Ops.on 3 (fun h0 e0 => (app_r (T := T) (g := .nil) h0 110 5 6 1 ti5 .nonfull (eK .u8) y128.1 [254] v130 ev130 kr kr kr kr (fun _ => rfl) (hq_of e0 kr))) <| Ops.sg 1 4 (Ops.dn (blkQ.n ⟨Zs11 (.v (.str (⟨#[]⟩ : ByteArray))) (appD 6 (List.map (eK .u8) v130)) a0.fNd (a0.fNd.length : Int) v97 (q26 []), [(b49_0 a0), .dead, .dead, .dead, .dead, .dead, (appO 1 (List.map (eK .u8) v130))]⟩ (by generalize v130 = z0; cases z0 <;> kernel_rfl) (seqQ.n (Rg 2 (Ops.dn (lpQ.n ⟨Zs11 (.v (.str (⟨#[]⟩ : ByteArray))) (appD 4 (List.map (eK .u8) v130)) a0.fNd (a0.fNd.length : Int) (w64 (v97 + 1)) (q26 []), [(b49_0 a0), .dead, .dead, .dead, (appO 1 (List.map (eK .u8) v130))]⟩ (by generalize v130 = z0; cases z0 <;> kernel_rfl) ?_))))))
       cases h
       exact ihx101 v130 (w64 (v97 + 1))  _ hsx106 _ om hrx102 hxx103
     ·refine Wp.ex 4 (sqQ.x (seqQ.x ?_))
      cases h
      exact lpQ.x (blkQ.x ⟨q2 ((.v (.str (⟨#[]⟩ : ByteArray)))::(appD 4 (List.map (eK .u8) v96))::q40 (q32 [])), [(b49_0 a0), .dead, .dead, .dead, (appO 1 (List.map (eK .u8) v96))]⟩ (by generalize v96 = z0; cases z0 <;> kernel_rfl) (hxx103 (v96, v97)  hsx106))
   refine Wp.loop' k49_0 4 kr ⟨q2 ((.v (.str (⟨#[]⟩ : ByteArray)))::(appD 4 (List.map (eK .u8) v45))::q40 (q3 ((dP (eL e111) a0.fNd)::(dI (a0.fNd.length : Int))::(dI 0)::q26 []))), [(b49_0 a0), .dead, .dead, .dead, (appO 1 (List.map (eK .u8) v45))]⟩ (by generalize v45 = z0; cases z0 <;> kernel_rfl) ?_
   rcases brk_some h with ⟨r133, er133, h⟩ | ⟨y132, ey132, h⟩
   ·refine hLx131 _ v45 0  _ er133 n om (fun r er σ hσ => ?_) (fun y  ey => by cases ey)
    cases er
    exact seqQ.r <| fnQ.r' (X49 n) (fun z => (eS z)) h hσ
   ·refine hLx131 _ v45 0  _ ey132 n om (fun r er => by cases er) (fun y  ey => ?_)
    cases ey
    exact seqQ.n (Sg 1 (Ops.on 2 (fun h0 e0 => (conv_d (T := T) h0 110 9 5 (appD 4 (List.map (eK .u8) y132.1)) y132.1 (appF_hd _ _ _) kr kr kr)) (Ops.sg 1 3 (Dn (Wp.rt (fnQ.r' (X49 n) (fun z => (eS z)) h (RetOk.mk' (.v (.str (strI y132.1))) kr kr)))))))
def f69_r1 (m : Nat) (v24 : Int) (v43 : Bool) : Option (Stp Bool (Int)) :=
 cnd v43
 (some (.ret true))
 (some (.nxt (w64 (v24 + 1))))
def f69_B2 (m : Nat) (a0 : S57) (a1 : (List S111)) (a2 : Bool) (v24 : Int) : Option (Stp Bool (Int)) :=
 cnd (decide (v24 < (a1.length : Int)))
 (bnd (idx a1 v24) fun v34 =>
 bnd (idx a0.fCx v34.fCt) fun v35 =>
 f69_r1 m v24 ((v34.fSn == (v35.fRt.length : Int)) && (v35.fEnd == a2)))
 (some (.brk v24))
def f69 (m : Nat) (a0 : S57) (a1 : (List S111)) (a2 : Bool) : Option Bool :=
 brk (iter (fun (y : Int) => f69_B2 m a0 a1 a2 y) m 0) some fun y46 =>
 some false
abbrev X69 (n : Nat) : Cx := cxOf Proofs.Try.prog E 69 n
def C69 : Code := bodyOf Proofs.Try.prog 69
abbrev b69_0 (w0 : S57) : AObj := .cells [(dI w0.fKn), (dI w0.fPr.fLx), (dI w0.fPr.fSf), (dP e72 w0.fCx)]
abbrev k69_0 : List Nat := [2, 3, 6, 10, 11, 12]
theorem ok69 (m : Nat) (a0 : S57) (a1 : (List S111)) (a2 o : Bool) (h : f69 m a0 a1 a2 = some o) (n : Nat) (hn : m + 1 ≤ n) : Fn Proofs.Try.prog E n 69 [.v (e57 a0), .v ((eL e111) a1), .v (eB a2)] (eB o) := by
 obtain ⟨n, rfl⟩ : ∃ q, n = q + 1 := ⟨n - 1, om⟩
 unfold f69 at h
 refine Fn.of kr kr kr ⟨(.v (.agg [(vI a0.fKn), (vI a0.fPr.fLx), (vI a0.fPr.fSf), (vP e72 a0.fCx)]))::(dP e111 a1)::(dB a2)::u32 [], []⟩ kr (Sg 2 (Dn (Wp.sq (Sg 1 (Ops.on 2 (fun h0 e0 => (len_r (T := T) h0 80 112 .plain e111 a1 kr)) (Ops.sg 1 3 (Dn (Wp.bk 0 [6] 1 ?_))))))))
 have hLx45 : ∀ (kx26 : Nat) (v24 : Int)  (ox25 : Bool ⊕ (Int)), iter (fun (y : Int) => f69_B2 m a0 a1 a2 y) kx26 v24 = some ox25 → ∀ nx27, kx26 ≤ nx27 → (∀ r, ox25 = .inl r → ∀ σ, RetOk (X69 n) (resOf Proofs.Try.prog 69) (eB r) σ → (seqQ (X69 n) (cR (cR C69)) (fnQ (X69 n).E.T (resOf Proofs.Try.prog 69) (eB o))) .ret σ) → (∀ (y : Int) , ox25 = .inr y → (seqQ (X69 n) (cR (cR C69)) (fnQ (X69 n).E.T (resOf Proofs.Try.prog 69) (eB o))) .normal ⟨Zs17 a2 a1 (a1.length : Int) ((dI y)::q22 []), [(b69_0 a0)]⟩) → Lp (X69 n) k69_0 1 (cL (cL (cR (cL (cR C69))))) nx27 ⟨Zs17 a2 a1 (a1.length : Int) ((dI v24)::q22 []), [(b69_0 a0)]⟩ (blkQ (X69 n) 0 [6] 1 (seqQ (X69 n) (cR (cR C69)) (fnQ (X69 n).E.T (resOf Proofs.Try.prog 69) (eB o)))) := by
  intro kx26
  induction kx26 with
  | zero => intro v24  ox25 h; exact (iter_zero h).elim
  | succ kx26 ihx28 =>
   intro v24  ox25 h nx27 hnx31 hrx29 hxx30
   obtain ⟨nx27, rfl⟩ : ∃ q, nx27 = q + 1 := ⟨nx27 - 1, om⟩
   obtain ⟨sx32, h, hsx33⟩ := iter_some h
   have h : f69_B2 m a0 a1 a2 v24 = some sx32 := h
   unfold f69_B2 at h
   refine Lp.succ (Sg 1 (Dn (Wp.sq (Wp.cd h k69_0 1 (fun h => ?_) (fun h => ?_)))))
   ·refine Kn (Wp.sq (Wp.bk 1 k69_0 1 (Wp.sq (Wp.rg ?_))))
    obtain ⟨v34, ev34, h⟩ := bnd_some h
    refine Ops.on 1 (fun h0 e0 => (ix_r (T := T) h0 80 112 2 .plain e111 a1 v24 v34 ev34 kr kr (fun _ => rfl))) <| Ops.sg 3 4 (Dn (Sg 4 ?_))
    obtain ⟨v35, ev35, h⟩ := bnd_some h
    refine Ops.on 5 (fun h0 e0 => (ix_r (T := T) h0 56 73 4 .plain e72 a0.fCx v34.fCt v35 ev35 kr kr (fun _ => rfl))) <| Ops.sg 3 8 (Dn (Sg 4 (Ops.on 5 (fun h0 e0 => (len_r (T := T) h0 23 49 .plain e48 v35.fRt kr)) (Ops.sg 2 7 (Ops.hv (fun KQ => ∀ (d38 d39 d40 d41 : D) (v42 v43 : Bool), f69_r1 m v24 v43 = some sx32 → KQ 12 ⟨Zs22 a2 a1 (a1.length : Int) v24 (decide (v24 < (a1.length : Int))) (.vptr [(vI v34.fCt), (vI v34.fSn)]) (.v (.agg [(vI v34.fCt), (vI v34.fSn)])) a0.fCx v34.fCt (.vptr [(vP e48 v35.fLf), (vP e48 v35.fRt), (vB v35.fBg), (vB v35.fEnd)]) (.v (.agg [(vP e48 v35.fLf), (vP e48 v35.fRt), (vB v35.fBg), (vB v35.fEnd)])) v34.fSn v35.fRt (v35.fRt.length : Int) v42 (d38::d39::d40::d41::(dB v43)::q1 []), [(b69_0 a0), (.cells [(dI v34.fCt), (dI v34.fSn)]), (.cells [(dP e48 v35.fLf), (dP e48 v35.fRt), (dB v35.fBg), (dB v35.fEnd)])]⟩) ?_ fun J69j44 => ?_)))))
    ·intro d38 d39 d40 d41 v42 v43 h
     unfold f69_r1 at h
     refine Dn <| Wp.cd h k69_0 3 (fun h => ?_) (fun h => ?_)
     ·refine Sg 1 (Dn (Wp.rt (sqQ.r (blkQ.r (seqQ.r ?_)))))
      cases h
      exact lpQ.r (blkQ.r (hrx29 _ hsx33 _ (RetOk.forget k69_0 kr (RetOk.mk' (dB true) kr kr))))
     ·refine Wp.sk (sqQ.n' (blkQ.n' (seqQ.n (Rg 2 (Ops.dn (lpQ.m ⟨Zs17 a2 a1 (a1.length : Int) ((dI (w64 (v24 + 1)))::q22 []), [(b69_0 a0)]⟩ ?_))))))
      cases h
      exact ihx28 (w64 (v24 + 1))  _ hsx33 _ om hrx29 hxx30
    refine Ops.hv (fun KQ => ∀ v36 : Bool, f69_r1 m v24 (v36 && (v35.fEnd == a2)) = some sx32 → KQ 7 ⟨Zs22 a2 a1 (a1.length : Int) v24 (decide (v24 < (a1.length : Int))) (.vptr [(vI v34.fCt), (vI v34.fSn)]) (.v (.agg [(vI v34.fCt), (vI v34.fSn)])) a0.fCx v34.fCt (.vptr [(vP e48 v35.fLf), (vP e48 v35.fRt), (vB v35.fBg), (vB v35.fEnd)]) (.v (.agg [(vP e48 v35.fLf), (vP e48 v35.fRt), (vB v35.fBg), (vB v35.fEnd)])) v34.fSn v35.fRt (v35.fRt.length : Int) v36 (q6 []), [(b69_0 a0), (.cells [(dI v34.fCt), (dI v34.fSn)]), (.cells [(dP e48 v35.fLf), (dP e48 v35.fRt), (dB v35.fBg), (dB v35.fEnd)])]⟩) ?_ fun G69g37 => Ops.sx (G69g37 (v34.fSn == (v35.fRt.length : Int)) h)
    intro v36 h
    cases v36
    ·exact Ops.sg 5 12 <| Ops.sx (J69j44 U U U U false false h)
    ·exact Ops.sg 5 12 <| Ops.sx (J69j44 (.ptr 2 3) (dB v35.fEnd) (dB a2) (dB (v35.fEnd == a2)) true (v35.fEnd == a2) h)
   ·refine Wp.ex 0 (sqQ.x (seqQ.x ?_))
    cases h
    exact lpQ.x (blkQ.w ⟨Zs17 a2 a1 (a1.length : Int) ((dI v24)::q22 []), [(b69_0 a0)]⟩ (hxx30 v24  hsx33))
 refine Wp.loop' k69_0 1 kr ⟨Zs17 a2 a1 (a1.length : Int) ((dI 0)::q22 []), [(b69_0 a0)]⟩ kr ?_
 rcases brk_some h with ⟨r47, er47, h⟩ | ⟨y46, ey46, h⟩
 ·refine hLx45 _ 0  _ er47 n om (fun r er σ hσ => ?_) (fun y  ey => by cases ey)
  cases er
  exact seqQ.r <| fnQ.r' (X69 n) (fun z => (eB z)) h hσ
 ·refine hLx45 _ 0  _ ey46 n om (fun r er => by cases er) (fun y  ey => ?_)
  cases ey
  exact seqQ.n (Sg 1 (Dn (Wp.rt (fnQ.r' (X69 n) (fun z => (eB z)) h (RetOk.mk' (dB false) kr kr)))))
def f51_B1 (m : Nat) (a0 : S57) (a1 : S82) (v7 : Int) : Option (Stp Bool (Int)) :=
 cnd (decide (v7 < (a1.fNd.length : Int)))
 (bnd (idx a1.fNd v7) fun v17 =>
 bnd (f69 m a0 v17 true) fun v18 =>
 cnd (!v18)
 (some (.ret false))
 (some (.nxt (w64 (v7 + 1)))))
 (some (.brk v7))
def f51 (m : Nat) (a0 : S57) (a1 : S82) : Option Bool :=
 bnd (f69 m a0 a1.fBad true) fun v1 =>
 cnd v1
 (some false)
 (brk (iter (fun (y : Int) => f51_B1 m a0 a1 y) m 0) some fun y20 =>
 some true)
abbrev X51 (n : Nat) : Cx := cxOf Proofs.Try.prog E 51 n
def C51 : Code := bodyOf Proofs.Try.prog 51
abbrev b51_0 (w0 : S57) : AObj := .cells [(dI w0.fKn), (dI w0.fPr.fLx), (dI w0.fPr.fSf), (dP e72 w0.fCx)]
abbrev b51_1 (w0 : S82) : AObj := .cells [(dP eI w0.fLf), (dP e111 w0.fBad), (dP (eL e111) w0.fNd)]
theorem ok51 (m : Nat) (a0 : S57) (a1 : S82) (o : Bool) (h : f51 m a0 a1 = some o) (n : Nat) (hn : m + 2 ≤ n) : Fn Proofs.Try.prog E n 51 [.v (e57 a0), .v (e82 a1)] (eB o) := by
 obtain ⟨n, rfl⟩ : ∃ q, n = q + 1 := ⟨n - 1, om⟩
 unfold f51 at h
 refine Fn.of kr kr kr ⟨(.v (.agg [(vI a0.fKn), (vI a0.fPr.fLx), (vI a0.fPr.fSf), (vP e72 a0.fCx)]))::(.v (.agg [(vP eI a1.fLf), (vP e111 a1.fBad), (vP (eL e111) a1.fNd)]))::u21 [], []⟩ kr (Sg 3 (Dn (Wp.sq (Sg 3 ?_))))
 obtain ⟨v1, ev1, h⟩ := bnd_some h
 refine Ops.on 4 (fun h0 e0 => (call_ok (E' := E) (h := h0) kr (Args.v (.agg [(vI a0.fKn), (vI a0.fPr.fLx), (vI a0.fPr.fSf), (vP e72 a0.fCx)]) (e57 a0) kr (Args.v (vP e111 a1.fBad) ((eL e111) a1.fBad) kr (Args.v (vB true) (eB true) kr Args.nil))) (ok69 m a0 a1.fBad true v1 ev1 n om))) <| Dn <| Wp.cd h [2, 3, 4] 2 (fun h => ?_) (fun h => ?_)
 ·exact Sg 1 (Dn (Wp.rt (sqQ.r (seqQ.r (fnQ.r' (X51 n) (fun z => (eB z)) h (RetOk.mk' (dB false) kr kr))))))
 ·refine Kn (Wp.sq (Sg 2 (Ops.on 3 (fun h0 e0 => (len_r (T := T) h0 81 80 .plain (eL e111) a1.fNd kr)) (Ops.sg 1 4 (Dn (Wp.bk 0 [4] 2 ?_))))))
  have hLx19 : ∀ (kx9 : Nat) (v7 : Int)  (ox8 : Bool ⊕ (Int)), iter (fun (y : Int) => f51_B1 m a0 a1 y) kx9 v7 = some ox8 → ∀ nx10, kx9 ≤ nx10 → (∀ r, ox8 = .inl r → ∀ σ, RetOk (X51 n) (resOf Proofs.Try.prog 51) (eB r) σ → (seqQ (X51 n) (cR (cR (cR C51))) (fnQ (X51 n).E.T (resOf Proofs.Try.prog 51) (eB o))) .ret σ) → (∀ (y : Int) , ox8 = .inr y → (seqQ (X51 n) (cR (cR (cR C51))) (fnQ (X51 n).E.T (resOf Proofs.Try.prog 51) (eB o))) .normal ⟨Zs9 (q7 ((dP (eL e111) a1.fNd)::(dI (a1.fNd.length : Int))::(dI y)::q8 [])), [(b51_0 a0), (b51_1 a1)]⟩) → Lp (X51 n) [2, 4, 12, 13, 14] 2 (cL (cL (cR (cL (cR (cR C51)))))) nx10 ⟨Zs9 (q7 ((dP (eL e111) a1.fNd)::(dI (a1.fNd.length : Int))::(dI v7)::q8 [])), [(b51_0 a0), (b51_1 a1)]⟩ (blkQ (X51 n) 0 [4] 2 (seqQ (X51 n) (cR (cR (cR C51))) (fnQ (X51 n).E.T (resOf Proofs.Try.prog 51) (eB o)))) := by
   intro kx9
   induction kx9 with
   | zero => intro v7  ox8 h; exact (iter_zero h).elim
   | succ kx9 ihx11 =>
    intro v7  ox8 h nx10 hnx14 hrx12 hxx13
    obtain ⟨nx10, rfl⟩ : ∃ q, nx10 = q + 1 := ⟨nx10 - 1, om⟩
    obtain ⟨sx15, h, hsx16⟩ := iter_some h
    have h : f51_B1 m a0 a1 v7 = some sx15 := h
    unfold f51_B1 at h
    refine Lp.succ (Sg 1 (Dn (Wp.sq (Wp.cd h [2, 4, 12, 13, 14] 2 (fun h => ?_) (fun h => ?_)))))
    ·refine Kn (Wp.sq (Wp.bk 1 [2, 4, 12, 13, 14] 2 (Wp.sq (Wp.rg ?_))))
     obtain ⟨v17, ev17, h⟩ := bnd_some h
     refine Ops.on 1 (fun h0 e0 => (ix_r (T := T) h0 81 80 1 .plain (eL e111) a1.fNd v7 v17 ev17 kr kr (fun _ => rfl))) <| Ops.sg 2 3 (Dn (Sg 2 ?_))
     obtain ⟨v18, ev18, h⟩ := bnd_some h
     refine Ops.on 3 (fun h0 e0 => (call_ok (E' := E) (h := h0) kr (Args.v (.agg [(vI a0.fKn), (vI a0.fPr.fLx), (vI a0.fPr.fSf), (vP e72 a0.fCx)]) (e57 a0) kr (Args.v (vP e111 v17) ((eL e111) v17) kr (Args.v (vB true) (eB true) kr Args.nil))) (ok69 m a0 v17 true v18 ev18 n om))) <| Ops.sg 1 4 (Dn (Wp.cd h [2, 4, 12, 13, 14] 2 (fun h => ?_) (fun h => ?_)))
     ·refine Sg 1 (Dn (Wp.rt (sqQ.r (blkQ.r (seqQ.r ?_)))))
      cases h
      exact lpQ.r (blkQ.r (hrx12 _ hsx16 _ (RetOk.forget [2, 4, 12, 13, 14] kr (RetOk.mk' (dB false) kr kr))))
     ·refine Wp.sk (sqQ.n' (blkQ.n' (seqQ.n (Rg 2 (Ops.dn (lpQ.m ⟨Zs9 (q7 ((dP (eL e111) a1.fNd)::(dI (a1.fNd.length : Int))::(dI (w64 (v7 + 1)))::q8 [])), [(b51_0 a0), (b51_1 a1)]⟩ ?_))))))
      cases h
      exact ihx11 (w64 (v7 + 1))  _ hsx16 _ om hrx12 hxx13
    ·refine Wp.ex 0 (sqQ.x (seqQ.x ?_))
     cases h
     exact lpQ.x (blkQ.w ⟨Zs9 (q7 ((dP (eL e111) a1.fNd)::(dI (a1.fNd.length : Int))::(dI v7)::q8 [])), [(b51_0 a0), (b51_1 a1)]⟩ (hxx13 v7  hsx16))
  refine Wp.loop' [2, 4, 12, 13, 14] 2 kr ⟨Zs9 (q7 ((dP (eL e111) a1.fNd)::(dI (a1.fNd.length : Int))::(dI 0)::q8 [])), [(b51_0 a0), (b51_1 a1)]⟩ kr ?_
  rcases brk_some h with ⟨r21, er21, h⟩ | ⟨y20, ey20, h⟩
  ·refine hLx19 _ 0  _ er21 n om (fun r er σ hσ => ?_) (fun y  ey => by cases ey)
   cases er
   exact seqQ.r <| fnQ.r' (X51 n) (fun z => (eB z)) h hσ
  ·refine hLx19 _ 0  _ ey20 n om (fun r er => by cases er) (fun y  ey => ?_)
   cases ey
   exact seqQ.n (Sg 1 (Dn (Wp.rt (fnQ.r' (X51 n) (fun z => (eB z)) h (RetOk.mk' (dB true) kr kr)))))
def f67_r1 (m : Nat) (v24 : Bool) : Option Bool :=
 some v24
def f67_r2 (m : Nat) (a0 a1 : S48) (v9 : Bool) : Option Bool :=
 f67_r1 m (v9 && ((a0.fSf == (-1)) || (a0.fSf == a1.fSf)))
def f67 (m : Nat) (a0 a1 : S48) : Option Bool :=
 f67_r2 m a0 a1 ((a0.fLx == (-1)) || (a0.fLx == a1.fLx))
abbrev X67 (n : Nat) : Cx := cxOf Proofs.Try.prog E 67 n
abbrev b67_0 (w0 : S48) : AObj := .cells [(dI w0.fLx), (dI w0.fSf)]
theorem ok67 (m : Nat) (a0 a1 : S48) (o : Bool) (h : f67 m a0 a1 = some o) (n : Nat) (hn : m + 1 ≤ n) : Fn Proofs.Try.prog E n 67 [.v (e48 a0), .v (e48 a1)] (eB o) := by
 obtain ⟨n, rfl⟩ : ∃ q, n = q + 1 := ⟨n - 1, om⟩
 unfold f67 at h
 refine Fn.of kr kr kr ⟨(.v (.agg [(vI a0.fLx), (vI a0.fSf)]))::(.v (.agg [(vI a1.fLx), (vI a1.fSf)]))::u25 [], []⟩ kr (Sg 3 (Dn (Sg 4 (Ops.hv (fun KQ => ∀ (d3 d4 d5 d6 d7 : D) (v8 v9 : Bool), f67_r2 m a0 a1 v9 = some o → KQ 10 ⟨Zs14 (.v (.agg [(vI a0.fLx), (vI a0.fSf)])) (.v (.agg [(vI a1.fLx), (vI a1.fSf)])) ((.ptr 0 0)::(dI a0.fLx)::(dB v8)::(dB v8)::d3::d4::d5::d6::d7::(dB v9)::u12 []), [(b67_0 a0), (b67_0 a1)]⟩) ?_ fun J67j10 => ?_))))
 ·intro d3 d4 d5 d6 d7 v8 v9 h
  unfold f67_r2 at h
  refine Ops.sg 1 11 <| Ops.hv (fun KQ => ∀ (d13 d14 d15 d16 d17 d18 d19 d20 d21 d22 : D) (v23 v24 : Bool), f67_r1 m v24 = some o → KQ 22 ⟨Zs14 (.v (.agg [(vI a0.fLx), (vI a0.fSf)])) (.v (.agg [(vI a1.fLx), (vI a1.fSf)])) ((.ptr 0 0)::(dI a0.fLx)::(dB v8)::(dB v8)::d3::d4::d5::d6::d7::(dB v23)::(dB v23)::d13::d14::d15::d16::d17::d18::d19::d20::d21::d22::(dB v24)::[]), [(b67_0 a0), (b67_0 a1)]⟩) ?_ fun J67j25 => ?_
  ·intro d13 d14 d15 d16 d17 d18 d19 d20 d21 d22 v23 v24 h
   unfold f67_r1 at h
   exact Ops.sg 1 23 (Dn (Wp.rt (fnQ.r' (X67 n) (fun z => (eB z)) h (RetOk.mk' (dB v24) kr kr))))
  refine Ops.hv (fun KQ => ∀ v11 : Bool, f67_r1 m (v11 && ((a0.fSf == (-1)) || (a0.fSf == a1.fSf))) = some o → KQ 11 ⟨Zs14 (.v (.agg [(vI a0.fLx), (vI a0.fSf)])) (.v (.agg [(vI a1.fLx), (vI a1.fSf)])) ((.ptr 0 0)::(dI a0.fLx)::(dB v8)::(dB v8)::d3::d4::d5::d6::d7::(dB v11)::(dB v11)::u11 []), [(b67_0 a0), (b67_0 a1)]⟩) ?_ fun G67g12 => Ops.sx (G67g12 v9 h)
  intro v11 h
  cases v11
  ·exact Ops.sg 11 22 <| Ops.sx (J67j25 U U U U U U U U U U false false h)
  ·refine Ops.sg 4 15 <| Ops.hv (fun KQ => ∀ v26 : Bool, (f67_r1 m (true && (v26 || (a0.fSf == a1.fSf)))) = some o → KQ 15 ⟨Zs14 (.v (.agg [(vI a0.fLx), (vI a0.fSf)])) (.v (.agg [(vI a1.fLx), (vI a1.fSf)])) ((.ptr 0 0)::(dI a0.fLx)::(dB v8)::(dB v8)::d3::d4::d5::d6::d7::(dB true)::(dB true)::(.ptr 0 1)::(dI a0.fSf)::(dB v26)::(dB v26)::u7 []), [(b67_0 a0), (b67_0 a1)]⟩) ?_ fun G67g27 => Ops.sx (G67g27 (a0.fSf == (-1)) h)
   intro v26 h
   cases v26
   ·exact Ops.sg 7 22 <| Ops.sx (J67j25 (.ptr 0 1) (dI a0.fSf) (dB false) (dB false) (.ptr 0 1) (dI a0.fSf) (.ptr 1 1) (dI a1.fSf) (dB (a0.fSf == a1.fSf)) (dB (a0.fSf == a1.fSf)) true (a0.fSf == a1.fSf) h)
   ·exact Ops.sg 7 22 <| Ops.sx (J67j25 (.ptr 0 1) (dI a0.fSf) (dB true) (dB true) U U U U U (dB true) true true h)
 refine Ops.hv (fun KQ => ∀ v1 : Bool, f67_r2 m a0 a1 (v1 || (a0.fLx == a1.fLx)) = some o → KQ 4 ⟨Zs14 (.v (.agg [(vI a0.fLx), (vI a0.fSf)])) (.v (.agg [(vI a1.fLx), (vI a1.fSf)])) ((.ptr 0 0)::(dI a0.fLx)::(dB v1)::(dB v1)::u18 []), [(b67_0 a0), (b67_0 a1)]⟩) ?_ fun G67g2 => Ops.sx (G67g2 (a0.fLx == (-1)) h)
 intro v1 h
 cases v1
 ·exact Ops.sg 6 10 <| Ops.sx (J67j10 (.ptr 0 0) (dI a0.fLx) (.ptr 1 0) (dI a1.fLx) (dB (a0.fLx == a1.fLx)) false (a0.fLx == a1.fLx) h)
 ·exact Ops.sg 6 10 <| Ops.sx (J67j10 U U U U U true true h)
def f26_B1 (m : Nat) (v1 v8 : (List Int)) (v9 : Int) : Option (Stp (List Int) ((List Int) × Int)) :=
 cnd (decide (v9 < (v1.length : Int)))
 (bnd (idx v8 v9) fun v19 =>
 bnd (upd v8 v9 (w64 (v9 + 1))) fun v20 =>
 some (.nxt (v20, w64 (v9 + 1))))
 (some (.brk (v8, v9)))
def f26 (m : Nat) (a0 : Int) : Option (List Int) :=
 bnd (mk 8 a0 0) fun v1 =>
 brk (iter (fun (y : (List Int) × Int) => f26_B1 m v1 y.1 y.2) m (v1, 0)) some fun y22 =>
 some y22.1
abbrev X26 (n : Nat) : Cx := cxOf Proofs.Try.prog E 26 n
def C26 : Code := bodyOf Proofs.Try.prog 26
theorem ok26 (m : Nat) (a0 : Int) (o : (List Int)) (h : f26 m a0 = some o) (n : Nat) (hn : m + 1 ≤ n) : Fn Proofs.Try.prog E n 26 [.v (eI a0)] ((eL eI) o) := by
 obtain ⟨n, rfl⟩ : ∃ q, n = q + 1 := ⟨n - 1, om⟩
 unfold f26 at h
 refine Fn.of kr kr kr ⟨(dI a0)::u18 [], []⟩ kr (Sg 1 (Dn (Sg 1 ?_)))
 obtain ⟨v1, ev1, h⟩ := bnd_some h
 refine Ops.on 2 (fun h0 e0 => (pil_mk (T := T) h0 62 3 ti3 eI a0 0 v1 ev1 kr kr kr kr)) <| Ops.sg 1 3 (Dn (Wp.sq (Sg 1 (Ops.on 2 (fun h0 e0 => (pil_len (T := T) h0 62 3 0 eI v1 kr)) (Ops.sg 1 3 (Dn (Wp.bk 0 [2, 3] 1 ?_)))))))
 have hLx21 : ∀ (kx11 : Nat) (v8 : (List Int)) (v9 : Int)  (ox10 : (List Int) ⊕ ((List Int) × Int)), iter (fun (y : (List Int) × Int) => f26_B1 m v1 y.1 y.2) kx11 (v8, v9) = some ox10 → ∀ nx12, kx11 ≤ nx12 → (∀ r, ox10 = .inl r → ∀ σ, RetOk (X26 n) (resOf Proofs.Try.prog 26) ((eL eI) r) σ → (seqQ (X26 n) (cR (cR (cR C26))) (fnQ (X26 n).E.T (resOf Proofs.Try.prog 26) ((eL eI) o))) .ret σ) → (∀ (y : (List Int) × Int) , ox10 = .inr y → (seqQ (X26 n) (cR (cR (cR C26))) (fnQ (X26 n).E.T (resOf Proofs.Try.prog 26) ((eL eI) o))) .normal ⟨Zs24 (.v (.sl .nil (List.map eI []))) y.1 (v1.length : Int) ((dI y.2)::q9 []), [(.row 1 (List.map eI y.1))]⟩) → Lp (X26 n) [2, 3, 8, 9] 1 (cL (cL (cR (cL (cR (cR C26)))))) nx12 ⟨Zs24 (.v (.sl .nil (List.map eI []))) v8 (v1.length : Int) ((dI v9)::q9 []), [(.row 1 (List.map eI v8))]⟩ (blkQ (X26 n) 0 [2, 3] 1 (seqQ (X26 n) (cR (cR (cR C26))) (fnQ (X26 n).E.T (resOf Proofs.Try.prog 26) ((eL eI) o)))) := by
  intro kx11
  induction kx11 with
  | zero => intro v8 v9  ox10 h; exact (iter_zero h).elim
  | succ kx11 ihx13 =>
   intro v8 v9  ox10 h nx12 hnx16 hrx14 hxx15
   obtain ⟨nx12, rfl⟩ : ∃ q, nx12 = q + 1 := ⟨nx12 - 1, om⟩
   obtain ⟨sx17, h, hsx18⟩ := iter_some h
   have h : f26_B1 m v1 v8 v9 = some sx17 := h
   unfold f26_B1 at h
   refine Lp.succ (Sg 1 (Dn (Wp.sq (Wp.cd h [2, 3, 8, 9] 1 (fun h => ?_) (fun h => ?_)))))
   ·refine Kn (Wp.sq (Wp.bk 1 [2, 3, 8, 9] 1 (Sg 2 (Dn (Rg 4 ?_)))))
    obtain ⟨v19, ev19, h⟩ := bnd_some h
    refine Ops.on 5 (fun h0 e0 => (pil_ix (T := T) h0 62 3 1 0 eI v8 v9 v19 ev19 kr kr (hq_of e0 kr))) ?_
    obtain ⟨v20, ev20, h⟩ := bnd_some h
    refine Ops.on 6 (fun h0 e0 => (pil_st (i := ti3) h0 1 0 0 eI v8 v20 v9 v19 (w64 (v9 + 1)) (vI (w64 (v9 + 1))) ev19 ev20 (hq_of e0 kr) kr kr kr)) <| Ops.st ⟨q2 ((.v (.sl .nil (List.map eI [])))::(pilD 0 (List.map eI v8))::(dI v9)::q3 ((dI (v1.length : Int))::(dI v9)::(dB (decide (v9 < (v1.length : Int))))::(dI v9)::(pilD 0 (List.map eI v8))::(dI v9)::(dI v9)::(dI (w64 (v9 + 1)))::(.eptr 0 (Int.toNat v9) 0)::q2 [])), [(.row 1 (List.map eI v20))]⟩ kr ?_
    rw [upd_pil ev20]
    refine Ops.dn (blkQ.n' (seqQ.n (Rg 2 (Ops.dn (lpQ.m ⟨Zs24 (.v (.sl .nil (List.map eI []))) v20 (v1.length : Int) ((dI (w64 (v9 + 1)))::q9 []), [(.row 1 (List.map eI v20))]⟩ ?_)))))
    cases h
    exact ihx13 v20 (w64 (v9 + 1))  _ hsx18 _ om hrx14 hxx15
   ·refine Wp.ex 0 (sqQ.x (seqQ.x ?_))
    cases h
    exact lpQ.x (blkQ.w ⟨Zs24 (.v (.sl .nil (List.map eI []))) v8 (v1.length : Int) ((dI v9)::q9 []), [(.row 1 (List.map eI v8))]⟩ (hxx15 (v8, v9)  hsx18))
 refine Wp.loop' [2, 3, 8, 9] 1 kr ⟨Zs24 (.v (.sl .nil (List.map eI []))) v1 (v1.length : Int) ((dI 0)::q9 []), [(.row 1 (List.map eI v1))]⟩ kr ?_
 rcases brk_some h with ⟨r23, er23, h⟩ | ⟨y22, ey22, h⟩
 ·refine hLx21 _ v1 0  _ er23 n om (fun r er σ hσ => ?_) (fun y  ey => by cases ey)
  cases er
  exact seqQ.r <| fnQ.r' (X26 n) (fun z => ((eL eI) z)) h hσ
 ·refine hLx21 _ v1 0  _ ey22 n om (fun r er => by cases er) (fun y  ey => ?_)
  cases ey
  exact seqQ.n (Sg 2 (Dn (Wp.rt (fnQ.r' (X26 n) (fun z => ((eL eI) z)) h (RetOk.mk' (pilD 0 (List.map eI y22.1)) kr (pil_frz _ _ 0 1 _ kr))))))
def f43 (m : Nat) (a0 a1 : Int) : Option S29 :=
 some ((⟨a0, a1⟩ : S29))
abbrev X43 (n : Nat) : Cx := cxOf Proofs.Try.prog E 43 n
theorem ok43 (m : Nat) (a0 a1 : Int) (o : S29) (h : f43 m a0 a1 = some o) (n : Nat) (hn : m + 1 ≤ n) : Fn Proofs.Try.prog E n 43 [.v (eI a0), .v (eI a1)] (e29 o) := by
 obtain ⟨n, rfl⟩ : ∃ q, n = q + 1 := ⟨n - 1, om⟩
 unfold f43 at h
 exact Fn.of kr kr kr ⟨(dI a0)::(dI a1)::u6 [], []⟩ kr (Sg 1 (Dn (Sg 4 (Dn (Wp.rt (fnQ.r' (X43 n) (fun z => (e29 z)) h (RetOk.mk' (.v (.agg [(vI a0), (vI a1)])) kr kr)))))))
def f45_r1 (m : Nat) (v7 : Bool) : Option Bool :=
 some v7
def f45 (m : Nat) (a0 a1 a2 : Int) : Option Bool :=
 f45_r1 m ((decide (a0 ≥ a1)) && (decide (a0 ≤ a2)))
abbrev X45 (n : Nat) : Cx := cxOf Proofs.Try.prog E 45 n
theorem ok45 (m : Nat) (a0 a1 a2 : Int) (o : Bool) (h : f45 m a0 a1 a2 = some o) (n : Nat) (hn : m + 1 ≤ n) : Fn Proofs.Try.prog E n 45 [.v (eI a0), .v (eI a1), .v (eI a2)] (eB o) := by
 obtain ⟨n, rfl⟩ : ∃ q, n = q + 1 := ⟨n - 1, om⟩
 unfold f45 at h
 refine Fn.of kr kr kr ⟨(dI a0)::(dI a1)::(dI a2)::u12 [], []⟩ kr (Sg 1 (Dn (Sg 4 (Ops.hv (fun KQ => ∀ (d3 d4 d5 : D) (v6 v7 : Bool), f45_r1 m v7 = some o → KQ 8 ⟨(dI a0)::(dI a1)::(dI a2)::u3 ((dB false)::(dI a0)::(dI a1)::(dB v6)::(dB v6)::d3::d4::d5::(dB v7)::[]), []⟩) ?_ fun J45j8 => ?_))))
 ·intro d3 d4 d5 v6 v7 h
  unfold f45_r1 at h
  exact Ops.sg 1 9 (Dn (Wp.rt (fnQ.r' (X45 n) (fun z => (eB z)) h (RetOk.mk' (dB v7) kr kr))))
 refine Ops.hv (fun KQ => ∀ v1 : Bool, f45_r1 m (v1 && (decide (a0 ≤ a2))) = some o → KQ 4 ⟨(dI a0)::(dI a1)::(dI a2)::u3 ((dB false)::(dI a0)::(dI a1)::(dB v1)::(dB v1)::u4 []), []⟩) ?_ fun G45g2 => Ops.sx (G45g2 (decide (a0 ≥ a1)) h)
 intro v1 h
 cases v1
 ·exact Ops.sg 4 8 <| Ops.sx (J45j8 U U U false false h)
 ·exact Ops.sg 4 8 <| Ops.sx (J45j8 (dI a0) (dI a2) (dB (decide (a0 ≤ a2))) true (decide (a0 ≤ a2)) h)
def f64_r1 (m : Nat) (v26 : Int) (v36 : S48) (v45 : Bool) : Option (Stp Int (Int)) :=
 cnd v45
 (some (.ret 3))
 (cnd ((v36.fLx == 0) && ((v36.fSf == 0) && true))
 (some (.ret 5))
 (some (.nxt (w64 (v26 + 1)))))
def f64_B2 (m : Nat) (a0 : (List S48)) (v26 : Int) : Option (Stp Int (Int)) :=
 cnd (decide (v26 < (a0.length : Int)))
 (bnd (idx a0 v26) fun v36 =>
 bnd (f45 m v36.fLx (-1) 1114111) fun v37 =>
 bnd (cnd (!v37)
 (some true)
 (bnd (f45 m v36.fSf (-1) 1114111) fun v47 =>
 some (!v47))) fun v45 =>
 f64_r1 m v26 v36 v45)
 (some (.brk v26))
def f64 (m : Nat) (a0 : (List S48)) : Option Int :=
 brk (iter (fun (y : Int) => f64_B2 m a0 y) m 0) some fun y49 =>
 some 0
abbrev X64 (n : Nat) : Cx := cxOf Proofs.Try.prog E 64 n
def C64 : Code := bodyOf Proofs.Try.prog 64
theorem ok64 (m : Nat) (a0 : (List S48)) (o : Int) (h : f64 m a0 = some o) (n : Nat) (hn : m + 2 ≤ n) : Fn Proofs.Try.prog E n 64 [.v ((eL e48) a0)] (eI o) := by
 obtain ⟨n, rfl⟩ : ∃ q, n = q + 1 := ⟨n - 1, om⟩
 unfold f64 at h
 refine Fn.of kr kr kr ⟨(dP e48 a0)::u24 [], []⟩ kr (Sg 1 (Dn (Wp.sq (Sg 1 (Ops.on 2 (fun h0 e0 => (len_r (T := T) h0 23 49 .plain e48 a0 kr)) (Ops.sg 1 3 (Dn (Wp.bk 0 [2] 0 ?_))))))))
 have hLx48 : ∀ (kx28 : Nat) (v26 : Int)  (ox27 : Int ⊕ (Int)), iter (fun (y : Int) => f64_B2 m a0 y) kx28 v26 = some ox27 → ∀ nx29, kx28 ≤ nx29 → (∀ r, ox27 = .inl r → ∀ σ, RetOk (X64 n) (resOf Proofs.Try.prog 64) (eI r) σ → (seqQ (X64 n) (cR (cR C64)) (fnQ (X64 n).E.T (resOf Proofs.Try.prog 64) (eI o))) .ret σ) → (∀ (y : Int) , ox27 = .inr y → (seqQ (X64 n) (cR (cR C64)) (fnQ (X64 n).E.T (resOf Proofs.Try.prog 64) (eI o))) .normal ⟨Zs27 a0 (a0.length : Int) y [], []⟩) → Lp (X64 n) [2, 5, 6, 7] 0 (cL (cL (cR (cL (cR C64))))) nx29 ⟨Zs27 a0 (a0.length : Int) v26 [], []⟩ (blkQ (X64 n) 0 [2] 0 (seqQ (X64 n) (cR (cR C64)) (fnQ (X64 n).E.T (resOf Proofs.Try.prog 64) (eI o)))) := by
  intro kx28
  induction kx28 with
  | zero => intro v26  ox27 h; exact (iter_zero h).elim
  | succ kx28 ihx30 =>
   intro v26  ox27 h nx29 hnx33 hrx31 hxx32
   obtain ⟨nx29, rfl⟩ : ∃ q, nx29 = q + 1 := ⟨nx29 - 1, om⟩
   obtain ⟨sx34, h, hsx35⟩ := iter_some h
   have h : f64_B2 m a0 v26 = some sx34 := h
   unfold f64_B2 at h
   refine Lp.succ (Sg 1 (Dn (Wp.sq (Wp.cd h [2, 5, 6, 7] 0 (fun h => ?_) (fun h => ?_)))))
   ·refine Kn (Wp.sq (Wp.bk 1 [2, 5, 6, 7] 0 (Wp.sq (Wp.rg ?_))))
    obtain ⟨v36, ev36, h⟩ := bnd_some h
    refine Ops.on 1 (fun h0 e0 => (ix_r (T := T) h0 23 49 2 .plain e48 a0 v26 v36 ev36 kr kr (fun _ => rfl))) <| Ops.sg 3 4 (Dn (Wp.sq (Sg 2 ?_)))
    obtain ⟨v37, ev37, h⟩ := bnd_some h
    refine Ops.on 3 (fun h0 e0 => (call_ok (E' := E) (h := h0) kr (Args.v (vI v36.fLx) (eI v36.fLx) kr (Args.v (vI (-1)) (eI (-1)) kr (Args.v (vI 1114111) (eI 1114111) kr Args.nil))) (ok45 m v36.fLx (-1) 1114111 v37 ev37 n om))) <| Ops.sg 2 5 <| Ops.hv (fun KQ => ∀ (d40 d41 d42 d43 : D) (v44 v45 : Bool), f64_r1 m v26 v36 v45 = some sx34 → KQ 10 ⟨q2 ((dI 0)::q1 ((.ptr 0 0)::(dP e48 a0)::(dI (a0.length : Int))::(dI v26)::(dB (decide (v26 < (a0.length : Int))))::(.vptr [(vI v36.fLx), (vI v36.fSf)])::(.v (.agg [(vI v36.fLx), (vI v36.fSf)]))::(.ptr 0 0)::(dI v36.fLx)::(dB v37)::(dB v44)::(dB v44)::d40::d41::d42::d43::(dB v45)::q4 [])), [(.cells [(dI v36.fLx), (dI v36.fSf)])]⟩) ?_ fun J64j46 => ?_
    ·intro d40 d41 d42 d43 v44 v45 h
     unfold f64_r1 at h
     refine Dn <| Wp.cd h [2, 4, 5, 6, 7] 1 (fun h => ?_) (fun h => ?_)
     ·refine Sg 1 (Dn (Wp.rt (sqQ.r (seqQ.r (blkQ.r (seqQ.r ?_))))))
      cases h
      exact lpQ.r (blkQ.r (hrx31 _ hsx35 _ (RetOk.forget [2, 5, 6, 7] kr (RetOk.mk' (dI 3) kr kr))))
     ·refine Kn (Sg 3 (Dn (Wp.cd h [2, 5, 6, 7] 1 (fun h => ?_) (fun h => ?_))))
      ·refine Sg 1 (Dn (Wp.rt (sqQ.r (blkQ.r (seqQ.r ?_)))))
       cases h
       exact lpQ.r (blkQ.r (hrx31 _ hsx35 _ (RetOk.forget [2, 5, 6, 7] kr (RetOk.mk' (dI 5) kr kr))))
      ·refine Wp.sk (sqQ.n' (blkQ.n' (seqQ.n (Rg 2 (Ops.dn (lpQ.m ⟨Zs27 a0 (a0.length : Int) (w64 (v26 + 1)) [], []⟩ ?_))))))
       cases h
       exact ihx30 (w64 (v26 + 1))  _ hsx35 _ om hrx31 hxx32
    obtain ⟨v45, ev45, h⟩ := bnd_some h
    refine Ops.hv (fun KQ => ∀ v38 : Bool, (cnd v38 (some true) (bnd (f45 m v36.fSf (-1) 1114111) fun v47 => some (!v47))) = some v45 → KQ 5 ⟨q2 ((dI 0)::q1 ((.ptr 0 0)::(dP e48 a0)::(dI (a0.length : Int))::(dI v26)::(dB (decide (v26 < (a0.length : Int))))::(.vptr [(vI v36.fLx), (vI v36.fSf)])::(.v (.agg [(vI v36.fLx), (vI v36.fSf)]))::(.ptr 0 0)::(dI v36.fLx)::(dB v37)::(dB v38)::(dB v38)::q9 [])), [(.cells [(dI v36.fLx), (dI v36.fSf)])]⟩) ?_ fun G64g39 => Ops.sx (G64g39 (!v37) ev45)
    intro v38 ev45
    cases v38
    ·have ev45 := cnd_f ev45
     refine Ops.sg 2 7 ?_
     obtain ⟨v47, ev47, ev45⟩ := bnd_some ev45
     exact Ops.on 8 (fun h0 e0 => (call_ok (E' := E) (h := h0) kr (Args.v (vI v36.fSf) (eI v36.fSf) kr (Args.v (vI (-1)) (eI (-1)) kr (Args.v (vI 1114111) (eI 1114111) kr Args.nil))) (ok45 m v36.fSf (-1) 1114111 v47 ev47 n om))) <| Ops.sg 2 10 <| Ops.sx (J64j46 (.ptr 0 1) (dI v36.fSf) (dB v47) (dB (!v47)) false (!v47) (some_sub (fun v45 => f64_r1 m v26 v36 v45 = some sx34) ev45 h))
    ·have ev45 := cnd_t ev45
     exact Ops.sg 5 10 <| Ops.sx (J64j46 U U U U true true (some_sub (fun v45 => f64_r1 m v26 v36 v45 = some sx34) ev45 h))
   ·refine Wp.ex 0 (sqQ.x (seqQ.x ?_))
    cases h
    exact lpQ.x (blkQ.w ⟨Zs27 a0 (a0.length : Int) v26 [], []⟩ (hxx32 v26  hsx35))
 refine Wp.loop' [2, 5, 6, 7] 0 kr ⟨q2 ((dI 0)::q2 ((dP e48 a0)::(dI (a0.length : Int))::(dI 0)::q17 [])), []⟩ kr ?_
 rcases brk_some h with ⟨r50, er50, h⟩ | ⟨y49, ey49, h⟩
 ·refine hLx48 _ 0  _ er50 n om (fun r er σ hσ => ?_) (fun y  ey => by cases ey)
  cases er
  exact seqQ.r <| fnQ.r' (X64 n) (fun z => (eI z)) h hσ
 ·refine hLx48 _ 0  _ ey49 n om (fun r er => by cases er) (fun y  ey => ?_)
  cases ey
  exact seqQ.n (Sg 1 (Dn (Wp.rt (fnQ.r' (X64 n) (fun z => (eI z)) h (RetOk.mk' (dI 0) kr kr)))))
def f44_r1 (m : Nat) (v39 : Int) (v49 : S72) (v57 : Bool) : Option (Stp Int (Int)) :=
 cnd v57
 (some (.ret 9))
 (bnd (f64 m v49.fLf) fun v59 =>
 cnd (v59 != 0)
 (some (.ret v59))
 (bnd (f64 m v49.fRt) fun v60 =>
 cnd (v60 != 0)
 (some (.ret v60))
 (some (.nxt (w64 (v39 + 1))))))
def f44_B2 (m : Nat) (a0 : S57) (v39 : Int) : Option (Stp Int (Int)) :=
 cnd (decide (v39 < (a0.fCx.length : Int)))
 (bnd (idx a0.fCx v39) fun v49 =>
 f44_r1 m v39 v49 ((decide ((v49.fLf.length : Int) > 3)) || (decide ((v49.fRt.length : Int) > 3))))
 (some (.brk v39))
def f44_r3 (m : Nat) (a0 : S57) (v11 : Bool) : Option Int :=
 cnd v11
 (some 3)
 (cnd ((a0.fPr.fLx == 0) && ((a0.fPr.fSf == 0) && true))
 (some 5)
 (bnd (f45 m (a0.fCx.length : Int) 1 3) fun v13 =>
 cnd (!v13)
 (some 9)
 (brk (iter (fun (y : Int) => f44_B2 m a0 y) m 0) some fun y62 =>
 some 0)))
def f44 (m : Nat) (a0 : S57) : Option Int :=
 bnd (f45 m a0.fKn 1 4) fun v1 =>
 cnd (!v1)
 (some 4)
 (bnd (f45 m a0.fPr.fLx 0 1114111) fun v2 =>
 bnd (cnd (!v2)
 (some true)
 (bnd (f45 m a0.fPr.fSf 0 1114111) fun v64 =>
 some (!v64))) fun v11 =>
 f44_r3 m a0 v11)
abbrev X44 (n : Nat) : Cx := cxOf Proofs.Try.prog E 44 n
def C44 : Code := bodyOf Proofs.Try.prog 44
abbrev b44_0 (w0 : S57) : AObj := .cells [(dI w0.fKn), (dI w0.fPr.fLx), (dI w0.fPr.fSf), (dP e72 w0.fCx)]
theorem ok44 (m : Nat) (a0 : S57) (o : Int) (h : f44 m a0 = some o) (n : Nat) (hn : m + 3 ≤ n) : Fn Proofs.Try.prog E n 44 [.v (e57 a0)] (eI o) := by
 obtain ⟨n, rfl⟩ : ∃ q, n = q + 1 := ⟨n - 1, om⟩
 unfold f44 at h
 refine Fn.of kr kr kr ⟨(.v (.agg [(vI a0.fKn), (vI a0.fPr.fLx), (vI a0.fPr.fSf), (vP e72 a0.fCx)]))::u40 (u21 []), []⟩ kr (Sg 2 (Dn (Wp.sq (Sg 2 ?_))))
 obtain ⟨v1, ev1, h⟩ := bnd_some h
 refine Ops.on 3 (fun h0 e0 => (call_ok (E' := E) (h := h0) kr (Args.v (vI a0.fKn) (eI a0.fKn) kr (Args.v (vI 1) (eI 1) kr (Args.v (vI 4) (eI 4) kr Args.nil))) (ok45 m a0.fKn 1 4 v1 ev1 n om))) <| Ops.sg 1 4 (Dn (Wp.cd h [1, 2] 1 (fun h => ?_) (fun h => ?_)))
 ·exact Sg 1 (Dn (Wp.rt (sqQ.r (seqQ.r (fnQ.r' (X44 n) (fun z => (eI z)) h (RetOk.mk' (dI 4) kr kr))))))
 ·refine Kn (Wp.sq (Sg 3 ?_))
  obtain ⟨v2, ev2, h⟩ := bnd_some h
  refine Ops.on 4 (fun h0 e0 => (call_ok (E' := E) (h := h0) kr (Args.v (vI a0.fPr.fLx) (eI a0.fPr.fLx) kr (Args.v (vI 0) (eI 0) kr (Args.v (vI 1114111) (eI 1114111) kr Args.nil))) (ok45 m a0.fPr.fLx 0 1114111 v2 ev2 n om))) <| Ops.sg 2 6 <| Ops.hv (fun KQ => ∀ (d5 d6 d7 d8 d9 : D) (v10 v11 : Bool), f44_r3 m a0 v11 = some o → KQ 12 ⟨(.v (.agg [(vI a0.fKn), (vI a0.fPr.fLx), (vI a0.fPr.fSf), (vP e72 a0.fCx)]))::(.ptr 0 0)::(dI 0)::u4 ((.ptr 0 0)::(dI a0.fKn)::(dB v1)::(dB (!v1))::(.ptr 0 1)::(.ptr 0 1)::(dI a0.fPr.fLx)::(dB v2)::(dB v10)::(dB v10)::d5::d6::d7::d8::d9::(dB v11)::u39 []), [(b44_0 a0)]⟩) ?_ fun J44j12 => ?_
  ·intro d5 d6 d7 d8 d9 v10 v11 h
   unfold f44_r3 at h
   refine Dn <| Wp.cd h [1, 2] 1 (fun h => ?_) (fun h => ?_)
   ·exact Sg 1 (Dn (Wp.rt (sqQ.r (seqQ.r (fnQ.r' (X44 n) (fun z => (eI z)) h (RetOk.mk' (dI 3) kr kr))))))
   ·refine Kn (Wp.sq (Sg 4 (Dn (Wp.cd h [1, 2] 1 (fun h => ?_) (fun h => ?_)))))
    ·exact Sg 1 (Dn (Wp.rt (sqQ.r (seqQ.r (fnQ.r' (X44 n) (fun z => (eI z)) h (RetOk.mk' (dI 5) kr kr))))))
    ·refine Kn (Wp.sq (Sg 2 (Ops.on 3 (fun h0 e0 => (len_r (T := T) h0 56 73 .plain e72 a0.fCx kr)) ?_)))
     obtain ⟨v13, ev13, h⟩ := bnd_some h
     refine Ops.on 4 (fun h0 e0 => (call_ok (E' := E) (h := h0) kr (Args.v (vI (a0.fCx.length : Int)) (eI (a0.fCx.length : Int)) kr (Args.v (vI 1) (eI 1) kr (Args.v (vI 3) (eI 3) kr Args.nil))) (ok45 m (a0.fCx.length : Int) 1 3 v13 ev13 n om))) <| Ops.sg 1 5 (Dn (Wp.cd h [1, 2] 1 (fun h => ?_) (fun h => ?_)))
     ·exact Sg 1 (Dn (Wp.rt (sqQ.r (seqQ.r (fnQ.r' (X44 n) (fun z => (eI z)) h (RetOk.mk' (dI 9) kr kr))))))
     ·refine Kn (Wp.sq (Sg 2 (Ops.on 3 (fun h0 e0 => (len_r (T := T) h0 56 73 .plain e72 a0.fCx kr)) (Ops.sg 1 4 (Dn (Wp.bk 0 [2] 1 ?_))))))
      have hLx61 : ∀ (kx41 : Nat) (v39 : Int)  (ox40 : Int ⊕ (Int)), iter (fun (y : Int) => f44_B2 m a0 y) kx41 v39 = some ox40 → ∀ nx42, kx41 ≤ nx42 → (∀ r, ox40 = .inl r → ∀ σ, RetOk (X44 n) (resOf Proofs.Try.prog 44) (eI r) σ → (seqQ (X44 n) (cR (cR (cR (cR (cR (cR C44)))))) (fnQ (X44 n).E.T (resOf Proofs.Try.prog 44) (eI o))) .ret σ) → (∀ (y : Int) , ox40 = .inr y → (seqQ (X44 n) (cR (cR (cR (cR (cR (cR C44)))))) (fnQ (X44 n).E.T (resOf Proofs.Try.prog 44) (eI o))) .normal ⟨Zs26 a0.fCx (a0.fCx.length : Int) ((dI y)::q26 []), [(b44_0 a0)]⟩) → Lp (X44 n) [2, 33, 34, 35] 1 (cL (cL (cR (cL (cR (cR (cR (cR (cR C44))))))))) nx42 ⟨Zs26 a0.fCx (a0.fCx.length : Int) ((dI v39)::q26 []), [(b44_0 a0)]⟩ (blkQ (X44 n) 0 [2] 1 (seqQ (X44 n) (cR (cR (cR (cR (cR (cR C44)))))) (fnQ (X44 n).E.T (resOf Proofs.Try.prog 44) (eI o)))) := by
       intro kx41
       induction kx41 with
       | zero => intro v39  ox40 h; exact (iter_zero h).elim
       | succ kx41 ihx43 =>
        intro v39  ox40 h nx42 hnx46 hrx44 hxx45
        obtain ⟨nx42, rfl⟩ : ∃ q, nx42 = q + 1 := ⟨nx42 - 1, om⟩
        obtain ⟨sx47, h, hsx48⟩ := iter_some h
        have h : f44_B2 m a0 v39 = some sx47 := h
        unfold f44_B2 at h
        refine Lp.succ (Sg 1 (Dn (Wp.sq (Wp.cd h [2, 33, 34, 35] 1 (fun h => ?_) (fun h => ?_)))))
        ·refine Kn (Wp.sq (Wp.bk 1 [2, 33, 34, 35] 1 (Wp.sq (Wp.rg ?_))))
         obtain ⟨v49, ev49, h⟩ := bnd_some h
         refine Ops.on 1 (fun h0 e0 => (ix_r (T := T) h0 56 73 4 .plain e72 a0.fCx v39 v49 ev49 kr kr (fun _ => rfl))) <| Ops.sg 3 4 (Dn (Wp.sq (Sg 2 (Ops.on 3 (fun h0 e0 => (len_r (T := T) h0 23 49 .plain e48 v49.fLf kr)) (Ops.sg 2 5 (Ops.hv (fun KQ => ∀ (d52 d53 d54 d55 : D) (v56 v57 : Bool), f44_r1 m v39 v49 v57 = some sx47 → KQ 10 ⟨q2 ((dI 0)::q1 ((.ptr 1 0)::q28 ((dP e72 a0.fCx)::(dI (a0.fCx.length : Int))::(dI v39)::(dB (decide (v39 < (a0.fCx.length : Int))))::(.vptr [(vP e48 v49.fLf), (vP e48 v49.fRt), (vB v49.fBg), (vB v49.fEnd)])::(.v (.agg [(vP e48 v49.fLf), (vP e48 v49.fRt), (vB v49.fBg), (vB v49.fEnd)]))::(.ptr 1 0)::(dP e48 v49.fLf)::(dI (v49.fLf.length : Int))::(dB v56)::(dB v56)::d52::d53::d54::d55::(dB v57)::q13 []))), [(b44_0 a0), (.cells [(dP e48 v49.fLf), (dP e48 v49.fRt), (dB v49.fBg), (dB v49.fEnd)])]⟩) ?_ fun J44j58 => ?_))))))
         ·intro d52 d53 d54 d55 v56 v57 h
          unfold f44_r1 at h
          refine Dn <| Wp.cd h [2, 4, 33, 34, 35] 2 (fun h => ?_) (fun h => ?_)
          ·refine Sg 1 (Dn (Wp.rt (sqQ.r (seqQ.r (blkQ.r (seqQ.r ?_))))))
           cases h
           exact lpQ.r (blkQ.r (hrx44 _ hsx48 _ (RetOk.forget [2, 33, 34, 35] kr (RetOk.mk' (dI 9) kr kr))))
          ·refine Kn (Wp.sq (Sg 2 ?_))
           obtain ⟨v59, ev59, h⟩ := bnd_some h
           refine Ops.on 3 (fun h0 e0 => (call_ok (E' := E) (h := h0) kr (Args.v (vP e48 v49.fLf) ((eL e48) v49.fLf) kr Args.nil) (ok64 m v49.fLf v59 ev59 n om))) <| Ops.sg 1 4 (Dn (Sg 2 (Dn (Wp.cd h [2, 4, 33, 34, 35] 2 (fun h => ?_) (fun h => ?_)))))
           ·refine Sg 2 (Dn (Wp.rt (sqQ.r (seqQ.r (blkQ.r (seqQ.r ?_))))))
            cases h
            exact lpQ.r (blkQ.r (hrx44 _ hsx48 _ (RetOk.forget [2, 33, 34, 35] kr (RetOk.mk' (dI v59) kr kr))))
           ·refine Kn (Sg 2 ?_)
            obtain ⟨v60, ev60, h⟩ := bnd_some h
            refine Ops.on 3 (fun h0 e0 => (call_ok (E' := E) (h := h0) kr (Args.v (vP e48 v49.fRt) ((eL e48) v49.fRt) kr Args.nil) (ok64 m v49.fRt v60 ev60 n om))) <| Ops.sg 1 4 (Dn (Sg 2 (Dn (Wp.cd h [2, 33, 34, 35] 2 (fun h => ?_) (fun h => ?_)))))
            ·refine Sg 2 (Dn (Wp.rt (sqQ.r (blkQ.r (seqQ.r ?_)))))
             cases h
             exact lpQ.r (blkQ.r (hrx44 _ hsx48 _ (RetOk.forget [2, 33, 34, 35] kr (RetOk.mk' (dI v60) kr kr))))
            ·refine Wp.sk (sqQ.n' (blkQ.n' (seqQ.n (Rg 2 (Ops.dn (lpQ.m ⟨Zs26 a0.fCx (a0.fCx.length : Int) ((dI (w64 (v39 + 1)))::q26 []), [(b44_0 a0)]⟩ ?_))))))
             cases h
             exact ihx43 (w64 (v39 + 1))  _ hsx48 _ om hrx44 hxx45
         refine Ops.hv (fun KQ => ∀ v50 : Bool, f44_r1 m v39 v49 (v50 || (decide ((v49.fRt.length : Int) > 3))) = some sx47 → KQ 5 ⟨q2 ((dI 0)::q1 ((.ptr 1 0)::q28 ((dP e72 a0.fCx)::(dI (a0.fCx.length : Int))::(dI v39)::(dB (decide (v39 < (a0.fCx.length : Int))))::(.vptr [(vP e48 v49.fLf), (vP e48 v49.fRt), (vB v49.fBg), (vB v49.fEnd)])::(.v (.agg [(vP e48 v49.fLf), (vP e48 v49.fRt), (vB v49.fBg), (vB v49.fEnd)]))::(.ptr 1 0)::(dP e48 v49.fLf)::(dI (v49.fLf.length : Int))::(dB v50)::(dB v50)::q18 []))), [(b44_0 a0), (.cells [(dP e48 v49.fLf), (dP e48 v49.fRt), (dB v49.fBg), (dB v49.fEnd)])]⟩) ?_ fun G44g51 => Ops.sx (G44g51 (decide ((v49.fLf.length : Int) > 3)) h)
         intro v50 h
         cases v50
         ·exact Ops.sg 2 7 <| Ops.on 8 (fun h0 e0 => (len_r (T := T) h0 23 49 .plain e48 v49.fRt kr)) <| Ops.sg 2 10 <| Ops.sx (J44j58 (.ptr 1 1) (dP e48 v49.fRt) (dI (v49.fRt.length : Int)) (dB (decide ((v49.fRt.length : Int) > 3))) false (decide ((v49.fRt.length : Int) > 3)) h)
         ·exact Ops.sg 5 10 <| Ops.sx (J44j58 U U U U true true h)
        ·refine Wp.ex 0 (sqQ.x (seqQ.x ?_))
         cases h
         exact lpQ.x (blkQ.w ⟨Zs26 a0.fCx (a0.fCx.length : Int) ((dI v39)::q26 []), [(b44_0 a0)]⟩ (hxx45 v39  hsx48))
      refine Wp.loop' [2, 33, 34, 35] 1 kr ⟨Zs26 a0.fCx (a0.fCx.length : Int) ((dI 0)::q26 []), [(b44_0 a0)]⟩ kr ?_
      rcases brk_some h with ⟨r63, er63, h⟩ | ⟨y62, ey62, h⟩
      ·refine hLx61 _ 0  _ er63 n om (fun r er σ hσ => ?_) (fun y  ey => by cases ey)
       cases er
       exact seqQ.r <| fnQ.r' (X44 n) (fun z => (eI z)) h hσ
      ·refine hLx61 _ 0  _ ey62 n om (fun r er => by cases er) (fun y  ey => ?_)
       cases ey
       exact seqQ.n (Sg 1 (Dn (Wp.rt (fnQ.r' (X44 n) (fun z => (eI z)) h (RetOk.mk' (dI 0) kr kr)))))
  obtain ⟨v11, ev11, h⟩ := bnd_some h
  refine Ops.hv (fun KQ => ∀ v3 : Bool, (cnd v3 (some true) (bnd (f45 m a0.fPr.fSf 0 1114111) fun v64 => some (!v64))) = some v11 → KQ 6 ⟨(.v (.agg [(vI a0.fKn), (vI a0.fPr.fLx), (vI a0.fPr.fSf), (vP e72 a0.fCx)]))::(.ptr 0 0)::(dI 0)::u4 ((.ptr 0 0)::(dI a0.fKn)::(dB v1)::(dB (!v1))::(.ptr 0 1)::(.ptr 0 1)::(dI a0.fPr.fLx)::(dB v2)::(dB v3)::(dB v3)::u40 (u5 [])), [(b44_0 a0)]⟩) ?_ fun G44g4 => Ops.sx (G44g4 (!v2) ev11)
  intro v3 ev11
  cases v3
  ·have ev11 := cnd_f ev11
   refine Ops.sg 3 9 ?_
   obtain ⟨v64, ev64, ev11⟩ := bnd_some ev11
   exact Ops.on 10 (fun h0 e0 => (call_ok (E' := E) (h := h0) kr (Args.v (vI a0.fPr.fSf) (eI a0.fPr.fSf) kr (Args.v (vI 0) (eI 0) kr (Args.v (vI 1114111) (eI 1114111) kr Args.nil))) (ok45 m a0.fPr.fSf 0 1114111 v64 ev64 n om))) <| Ops.sg 2 12 <| Ops.sx (J44j12 (.ptr 0 1) (.ptr 0 2) (dI a0.fPr.fSf) (dB v64) (dB (!v64)) false (!v64) (some_sub (fun v11 => f44_r3 m a0 v11 = some o) ev11 h))
  ·have ev11 := cnd_t ev11
   exact Ops.sg 6 12 <| Ops.sx (J44j12 U U U U U true true (some_sub (fun v11 => f44_r3 m a0 v11 = some o) ev11 h))
def f24_B1 (m : Nat) (a0 : (List S57)) (v9 : Int) : Option (Stp S29 (Int)) :=
 cnd (decide (v9 < (a0.length : Int)))
 (bnd (idx a0 v9) fun v19 =>
 bnd (f44 m v19) fun v20 =>
 cnd (v20 != 0)
 (bnd (f43 m v20 v9) fun v21 =>
 some (.ret v21))
 (some (.nxt (w64 (v9 + 1)))))
 (some (.brk v9))
def f24 (m : Nat) (a0 : (List S57)) : Option S29 :=
 cnd (decide ((a0.length : Int) > 40))
 (bnd (f43 m 2 (-1)) fun v1 =>
 some v1)
 (brk (iter (fun (y : Int) => f24_B1 m a0 y) m 0) some fun y23 =>
 some ((⟨0, 0⟩ : S29)))
abbrev X24 (n : Nat) : Cx := cxOf Proofs.Try.prog E 24 n
def C24 : Code := bodyOf Proofs.Try.prog 24
theorem ok24 (m : Nat) (a0 : (List S57)) (o : S29) (h : f24 m a0 = some o) (n : Nat) (hn : m + 4 ≤ n) : Fn Proofs.Try.prog E n 24 [.v ((eL e57) a0)] (e29 o) := by
 obtain ⟨n, rfl⟩ : ∃ q, n = q + 1 := ⟨n - 1, om⟩
 unfold f24 at h
 refine Fn.of kr kr kr ⟨(dP e57 a0)::u25 [], []⟩ kr (Sg 1 (Dn (Wp.sq (Sg 1 (Ops.on 2 (fun h0 e0 => (len_r (T := T) h0 22 58 .plain e57 a0 kr)) (Ops.sg 1 3 (Dn (Wp.cd h [0, 2] 1 (fun h => ?_) (fun h => ?_)))))))))
 ·refine Wp.sq (Wp.rg ?_)
  obtain ⟨v1, ev1, h⟩ := bnd_some h
  exact Ops.on 1 (fun h0 e0 => (call_ok (E' := E) (h := h0) kr (Args.v (vI 2) (eI 2) kr (Args.v (vI (-1)) (eI (-1)) kr Args.nil)) (ok43 m 2 (-1) v1 ev1 n om))) <| Ops.sg 1 2 (Dn (Wp.rt (sqQ.r (seqQ.r (fnQ.r' (X24 n) (fun z => (e29 z)) h (RetOk.mk' (.v (.agg [(vI v1.fCo), (vI v1.fIx)])) kr kr))))))
 ·refine Kn (Wp.sq (Sg 1 (Ops.on 2 (fun h0 e0 => (len_r (T := T) h0 22 58 .plain e57 a0 kr)) (Ops.sg 1 3 (Dn (Wp.bk 0 [2] 1 ?_))))))
  have hLx22 : ∀ (kx11 : Nat) (v9 : Int)  (ox10 : S29 ⊕ (Int)), iter (fun (y : Int) => f24_B1 m a0 y) kx11 v9 = some ox10 → ∀ nx12, kx11 ≤ nx12 → (∀ r, ox10 = .inl r → ∀ σ, RetOk (X24 n) (resOf Proofs.Try.prog 24) (e29 r) σ → (seqQ (X24 n) (cR (cR (cR C24))) (fnQ (X24 n).E.T (resOf Proofs.Try.prog 24) (e29 o))) .ret σ) → (∀ (y : Int) , ox10 = .inr y → (seqQ (X24 n) (cR (cR (cR C24))) (fnQ (X24 n).E.T (resOf Proofs.Try.prog 24) (e29 o))) .normal ⟨Zs25 a0 (a0.length : Int) ((dI y)::q13 []), [(.cells [(dI 0), (dI 0)])]⟩) → Lp (X24 n) [2, 10, 11, 12] 1 (cL (cL (cR (cL (cR (cR C24)))))) nx12 ⟨Zs25 a0 (a0.length : Int) ((dI v9)::q13 []), [(.cells [(dI 0), (dI 0)])]⟩ (blkQ (X24 n) 0 [2] 1 (seqQ (X24 n) (cR (cR (cR C24))) (fnQ (X24 n).E.T (resOf Proofs.Try.prog 24) (e29 o)))) := by
   intro kx11
   induction kx11 with
   | zero => intro v9  ox10 h; exact (iter_zero h).elim
   | succ kx11 ihx13 =>
    intro v9  ox10 h nx12 hnx16 hrx14 hxx15
    obtain ⟨nx12, rfl⟩ : ∃ q, nx12 = q + 1 := ⟨nx12 - 1, om⟩
    obtain ⟨sx17, h, hsx18⟩ := iter_some h
    have h : f24_B1 m a0 v9 = some sx17 := h
    unfold f24_B1 at h
    refine Lp.succ (Sg 1 (Dn (Wp.sq (Wp.cd h [2, 10, 11, 12] 1 (fun h => ?_) (fun h => ?_)))))
    ·refine Kn (Wp.sq (Wp.bk 1 [2, 10, 11, 12] 1 (Sg 1 ?_)))
     obtain ⟨v19, ev19, h⟩ := bnd_some h
     refine Ops.on 2 (fun h0 e0 => (ix_r (T := T) h0 22 58 4 .plain e57 a0 v9 v19 ev19 kr kr (fun _ => rfl))) <| Ops.sg 4 6 (Dn (Sg 1 ?_))
     obtain ⟨v20, ev20, h⟩ := bnd_some h
     refine Ops.on 2 (fun h0 e0 => (call_ok (E' := E) (h := h0) kr (Args.v (.agg [(vI v19.fKn), (vI v19.fPr.fLx), (vI v19.fPr.fSf), (vP e72 v19.fCx)]) (e57 v19) kr Args.nil) (ok44 m v19 v20 ev20 n om))) <| Ops.sg 1 3 (Dn (Sg 2 (Dn (Wp.cd h [2, 10, 11, 12] 2 (fun h => ?_) (fun h => ?_)))))
     ·refine Sg 2 ?_
      obtain ⟨v21, ev21, h⟩ := bnd_some h
      refine Ops.on 3 (fun h0 e0 => (call_ok (E' := E) (h := h0) kr (Args.v (vI v20) (eI v20) kr (Args.v (vI v9) (eI v9) kr Args.nil)) (ok43 m v20 v9 v21 ev21 n om))) <| Ops.sg 1 4 (Dn (Wp.rt (sqQ.r (blkQ.r (seqQ.r ?_)))))
      cases h
      exact lpQ.r (blkQ.r (hrx14 _ hsx18 _ (RetOk.forget [2, 10, 11, 12] kr (RetOk.mk' (.v (.agg [(vI v21.fCo), (vI v21.fIx)])) kr kr))))
     ·refine Wp.sk (sqQ.n' (blkQ.n' (seqQ.n (Rg 2 (Ops.dn (lpQ.m ⟨Zs25 a0 (a0.length : Int) ((dI (w64 (v9 + 1)))::q13 []), [(.cells [(dI 0), (dI 0)])]⟩ ?_))))))
      cases h
      exact ihx13 (w64 (v9 + 1))  _ hsx18 _ om hrx14 hxx15
    ·refine Wp.ex 0 (sqQ.x (seqQ.x ?_))
     cases h
     exact lpQ.x (blkQ.w ⟨Zs25 a0 (a0.length : Int) ((dI v9)::q13 []), [(.cells [(dI 0), (dI 0)])]⟩ (hxx15 v9  hsx18))
  refine Wp.loop' [2, 10, 11, 12] 1 kr ⟨Zs25 a0 (a0.length : Int) ((dI 0)::q13 []), [(.cells [(dI 0), (dI 0)])]⟩ kr ?_
  rcases brk_some h with ⟨r24, er24, h⟩ | ⟨y23, ey23, h⟩
  ·refine hLx22 _ 0  _ er24 n om (fun r er σ hσ => ?_) (fun y  ey => by cases ey)
   cases er
   exact seqQ.r <| fnQ.r' (X24 n) (fun z => (e29 z)) h hσ
  ·refine hLx22 _ 0  _ ey23 n om (fun r er => by cases er) (fun y  ey => ?_)
   cases ey
   exact seqQ.n (Sg 2 (Dn (Wp.rt (fnQ.r' (X24 n) (fun z => (e29 z)) h (RetOk.mk' (.v (.agg [(vI 0), (vI 0)])) kr kr)))))
def f25_r1 (m : Nat) (v137 : Int) (v164 v202 : Bool) : Option (Stp S29 (Bool × Int)) :=
 cnd v202
 (bnd (f43 m 13 v137) fun v204 =>
 some (.ret v204))
 (some (.nxt (v164, w64 (v137 + 1))))
def f25_r2 (m : Nat) (a0 : (List S48)) (v137 : Int) (v147 : S48) (v164 v165 : Bool) : Option (Stp S29 (Bool × Int)) :=
 bnd (cnd v165
 (bnd (idx a0 (w64 (v137 - 1))) fun v205 =>
 cnd (decide (v205.fLx < v147.fLx))
 (some (!true))
 (bnd (idx a0 (w64 (v137 - 1))) fun v208 =>
 cnd (v208.fLx == v147.fLx)
 (bnd (idx a0 (w64 (v137 - 1))) fun v211 =>
 some (!(decide (v211.fSf < v147.fSf))))
 (some (!false))))
 (some false)) fun v202 =>
 f25_r1 m v137 v164 v202
def f25_r3 (m : Nat) (a0 : (List S48)) (v136 : Bool) (v137 : Int) (v147 : S48) (v156 : Bool) : Option (Stp S29 (Bool × Int)) :=
 cnd v156
 (bnd (f43 m 3 v137) fun v158 =>
 some (.ret v158))
 (cnd ((v147.fLx == 0) && ((v147.fSf == 0) && true))
 (bnd (f43 m 5 v137) fun v159 =>
 some (.ret v159))
 (f25_r2 m a0 v137 v147 v136 (v136 && (decide (v137 > 0)))))
def f25_B4 (m : Nat) (a0 : (List S48)) (v136 : Bool) (v137 : Int) : Option (Stp S29 (Bool × Int)) :=
 cnd (decide (v137 < (a0.length : Int)))
 (bnd (idx a0 v137) fun v147 =>
 bnd (f45 m v147.fLx 0 1114111) fun v148 =>
 bnd (cnd (!v148)
 (some true)
 (bnd (f45 m v147.fSf 0 1114111) fun v212 =>
 some (!v212))) fun v156 =>
 f25_r3 m a0 v136 v137 v147 v156)
 (some (.brk (v136, v137)))
def f25 (m : Nat) (a0 : (List S48)) (a1 : Int) (a2 : Bool) : Option S29 :=
 cnd (decide ((a0.length : Int) > a1))
 (bnd (f43 m 2 (-2)) fun v1 =>
 some v1)
 (brk (iter (fun (y : Bool × Int) => f25_B4 m a0 y.1 y.2) m (a2, 0)) some fun y214 =>
 some ((⟨0, 0⟩ : S29)))
abbrev X25 (n : Nat) : Cx := cxOf Proofs.Try.prog E 25 n
def C25 : Code := bodyOf Proofs.Try.prog 25
abbrev b25_0 : AObj := .cells [(dI 0), (dI 0)]
abbrev b25_1 (w0 : S48) : AObj := .cells [(dI w0.fLx), (dI w0.fSf)]
abbrev k25_0 : List Nat := [0, 2, 6, 14, 15, 16]
theorem ok25 (m : Nat) (a0 : (List S48)) (a1 : Int) (a2 : Bool) (o : S29) (h : f25 m a0 a1 a2 = some o) (n : Nat) (hn : m + 2 ≤ n) : Fn Proofs.Try.prog E n 25 [.v ((eL e48) a0), .v (eI a1), .v (eB a2)] (e29 o) := by
 obtain ⟨n, rfl⟩ : ∃ q, n = q + 1 := ⟨n - 1, om⟩
 unfold f25 at h
 refine Fn.of kr kr kr ⟨(dP e48 a0)::(dI a1)::(dB a2)::u40 (u38 []), []⟩ kr (Sg 1 (Dn (Wp.sq (Sg 1 (Ops.on 2 (fun h0 e0 => (len_r (T := T) h0 23 49 .plain e48 a0 kr)) (Ops.sg 2 4 (Dn (Wp.cd h [0, 2, 6] 1 (fun h => ?_) (fun h => ?_)))))))))
 ·refine Wp.sq (Wp.rg ?_)
  obtain ⟨v1, ev1, h⟩ := bnd_some h
  exact Ops.on 1 (fun h0 e0 => (call_ok (E' := E) (h := h0) kr (Args.v (vI 2) (eI 2) kr (Args.v (vI (-2)) (eI (-2)) kr Args.nil)) (ok43 m 2 (-2) v1 ev1 n om))) <| Ops.sg 1 2 (Dn (Wp.rt (sqQ.r (seqQ.r (fnQ.r' (X25 n) (fun z => (e29 z)) h (RetOk.mk' (.v (.agg [(vI v1.fCo), (vI v1.fIx)])) kr kr))))))
 ·refine Kn (Wp.sq (Sg 1 (Ops.on 2 (fun h0 e0 => (len_r (T := T) h0 23 49 .plain e48 a0 kr)) (Ops.sg 1 3 (Dn (Wp.bk 0 [6] 1 ?_))))))
  have hLx213 : ∀ (kx139 : Nat) (v136 : Bool) (v137 : Int)  (ox138 : S29 ⊕ (Bool × Int)), iter (fun (y : Bool × Int) => f25_B4 m a0 y.1 y.2) kx139 (v136, v137) = some ox138 → ∀ nx140, kx139 ≤ nx140 → (∀ r, ox138 = .inl r → ∀ σ, RetOk (X25 n) (resOf Proofs.Try.prog 25) (e29 r) σ → (seqQ (X25 n) (cR (cR (cR C25))) (fnQ (X25 n).E.T (resOf Proofs.Try.prog 25) (e29 o))) .ret σ) → (∀ (y : Bool × Int) , ox138 = .inr y → (seqQ (X25 n) (cR (cR (cR C25))) (fnQ (X25 n).E.T (resOf Proofs.Try.prog 25) (e29 o))) .normal ⟨Zs18 a0 y.1 (a0.length : Int) ((dI y.2)::q40 (q24 [])), [b25_0]⟩) → Lp (X25 n) k25_0 1 (cL (cL (cR (cL (cR (cR C25)))))) nx140 ⟨Zs18 a0 v136 (a0.length : Int) ((dI v137)::q40 (q24 [])), [b25_0]⟩ (blkQ (X25 n) 0 [6] 1 (seqQ (X25 n) (cR (cR (cR C25))) (fnQ (X25 n).E.T (resOf Proofs.Try.prog 25) (e29 o)))) := by
   intro kx139
   induction kx139 with
   | zero => intro v136 v137  ox138 h; exact (iter_zero h).elim
   | succ kx139 ihx141 =>
    intro v136 v137  ox138 h nx140 hnx144 hrx142 hxx143
    obtain ⟨nx140, rfl⟩ : ∃ q, nx140 = q + 1 := ⟨nx140 - 1, om⟩
    obtain ⟨sx145, h, hsx146⟩ := iter_some h
    have h : f25_B4 m a0 v136 v137 = some sx145 := h
    unfold f25_B4 at h
    refine Lp.succ (Sg 1 (Dn (Wp.sq (Wp.cd h k25_0 1 (fun h => ?_) (fun h => ?_)))))
    ·refine Kn (Wp.sq (Wp.bk 1 k25_0 1 (Sg 1 ?_)))
     obtain ⟨v147, ev147, h⟩ := bnd_some h
     refine Ops.on 2 (fun h0 e0 => (ix_r (T := T) h0 23 49 2 .plain e48 a0 v137 v147 ev147 kr kr (fun _ => rfl))) <| Ops.sg 4 6 (Dn (Wp.sq (Sg 2 ?_)))
     obtain ⟨v148, ev148, h⟩ := bnd_some h
     refine Ops.on 3 (fun h0 e0 => (call_ok (E' := E) (h := h0) kr (Args.v (vI v147.fLx) (eI v147.fLx) kr (Args.v (vI 0) (eI 0) kr (Args.v (vI 1114111) (eI 1114111) kr Args.nil))) (ok45 m v147.fLx 0 1114111 v148 ev148 n om))) <| Ops.sg 2 5 <| Ops.hv (fun KQ => ∀ (d151 d152 d153 d154 : D) (v155 v156 : Bool), f25_r3 m a0 v136 v137 v147 v156 = some sx145 → KQ 10 ⟨Zs28 a0 v136 v137 (a0.length : Int) (decide (v137 < (a0.length : Int))) (.vptr [(vI v147.fLx), (vI v147.fSf)]) (.v (.agg [(vI v147.fLx), (vI v147.fSf)])) v147.fLx v148 v155 (d151::d152::d153::d154::(dB v156)::q40 (q10 [])), [b25_0, (b25_1 v147)]⟩) ?_ fun J25j157 => ?_
     ·intro d151 d152 d153 d154 v155 v156 h
      unfold f25_r3 at h
      refine Dn <| Wp.cd h [0, 2, 6, 7, 8, 14, 15, 16] 2 (fun h => ?_) (fun h => ?_)
      ·refine Sg 1 ?_
       obtain ⟨v158, ev158, h⟩ := bnd_some h
       refine Ops.on 2 (fun h0 e0 => (call_ok (E' := E) (h := h0) kr (Args.v (vI 3) (eI 3) kr (Args.v (vI v137) (eI v137) kr Args.nil)) (ok43 m 3 v137 v158 ev158 n om))) <| Ops.sg 1 3 (Dn (Wp.rt (sqQ.r (seqQ.r (blkQ.r (seqQ.r ?_))))))
       cases h
       exact lpQ.r (blkQ.r (hrx142 _ hsx146 _ (RetOk.forget k25_0 kr (RetOk.mk' (.v (.agg [(vI v158.fCo), (vI v158.fIx)])) kr kr))))
      ·refine Kn (Wp.sq (Sg 3 (Dn (Wp.cd h [0, 2, 6, 7, 8, 14, 15, 16] 2 (fun h => ?_) (fun h => ?_)))))
       ·refine Sg 1 ?_
        obtain ⟨v159, ev159, h⟩ := bnd_some h
        refine Ops.on 2 (fun h0 e0 => (call_ok (E' := E) (h := h0) kr (Args.v (vI 5) (eI 5) kr (Args.v (vI v137) (eI v137) kr Args.nil)) (ok43 m 5 v137 v159 ev159 n om))) <| Ops.sg 1 3 (Dn (Wp.rt (sqQ.r (seqQ.r (blkQ.r (seqQ.r ?_))))))
        cases h
        exact lpQ.r (blkQ.r (hrx142 _ hsx146 _ (RetOk.forget k25_0 kr (RetOk.mk' (.v (.agg [(vI v159.fCo), (vI v159.fIx)])) kr kr))))
       ·refine Kn (Sg 2 (Ops.hv (fun KQ => ∀ (d162 d163 : D) (v164 v165 : Bool), f25_r2 m a0 v137 v147 v164 v165 = some sx145 → KQ 5 ⟨Zs3 a0 v164 v137 (a0.length : Int) (decide (v137 < (a0.length : Int))) (.vptr [(vI v147.fLx), (vI v147.fSf)]) (.v (.agg [(vI v147.fLx), (vI v147.fSf)])) v147.fLx v148 v155 d151 d152 d153 d154 v156 (.v (.agg [(vI 0), (vI 0)])) ((v147.fLx == 0) && ((v147.fSf == 0) && true)) (d162::d163::(dB v165)::q38 []), [b25_0, (b25_1 v147)]⟩) ?_ fun J25j166 => ?_))
        ·intro d162 d163 v164 v165 h
         unfold f25_r2 at h
         refine Ops.sg 1 6 <| Ops.hv (fun KQ => ∀ (d169 d170 d171 d172 d173 d174 d175 d176 d177 d178 d179 d180 d181 d182 d183 d184 d185 d186 d187 d188 d189 d190 d191 d192 d193 d194 d195 d196 d197 d198 d199 d200 : D) (v201 v202 : Bool), f25_r1 m v137 v164 v202 = some sx145 → KQ 39 ⟨Zs3 a0 v164 v137 (a0.length : Int) (decide (v137 < (a0.length : Int))) (.vptr [(vI v147.fLx), (vI v147.fSf)]) (.v (.agg [(vI v147.fLx), (vI v147.fSf)])) v147.fLx v148 v155 d151 d152 d153 d154 v156 (.v (.agg [(vI 0), (vI 0)])) ((v147.fLx == 0) && ((v147.fSf == 0) && true)) (d162::d163::(dB v201)::(dB v201)::d169::d170::d171::d172::d173::d174::d175::d176::d177::d178::d179::d180::d181::d182::d183::d184::d185::d186::d187::d188::d189::d190::d191::d192::d193::d194::d195::d196::d197::d198::d199::d200::(dB v202)::q4 []), [b25_0, (b25_1 v147)]⟩) ?_ fun J25j203 => ?_
         ·intro d169 d170 d171 d172 d173 d174 d175 d176 d177 d178 d179 d180 d181 d182 d183 d184 d185 d186 d187 d188 d189 d190 d191 d192 d193 d194 d195 d196 d197 d198 d199 d200 v201 v202 h
          unfold f25_r1 at h
          refine Dn <| Wp.cd h k25_0 2 (fun h => ?_) (fun h => ?_)
          ·refine Sg 1 ?_
           obtain ⟨v204, ev204, h⟩ := bnd_some h
           refine Ops.on 2 (fun h0 e0 => (call_ok (E' := E) (h := h0) kr (Args.v (vI 13) (eI 13) kr (Args.v (vI v137) (eI v137) kr Args.nil)) (ok43 m 13 v137 v204 ev204 n om))) <| Ops.sg 1 3 (Dn (Wp.rt (sqQ.r (blkQ.r (seqQ.r ?_)))))
           cases h
           exact lpQ.r (blkQ.r (hrx142 _ hsx146 _ (RetOk.forget k25_0 kr (RetOk.mk' (.v (.agg [(vI v204.fCo), (vI v204.fIx)])) kr kr))))
          ·refine Wp.sk (sqQ.n' (blkQ.n' (seqQ.n (Rg 2 (Ops.dn (lpQ.m ⟨Zs18 a0 v164 (a0.length : Int) ((dI (w64 (v137 + 1)))::q40 (q24 [])), [b25_0]⟩ ?_))))))
           cases h
           exact ihx141 v164 (w64 (v137 + 1))  _ hsx146 _ om hrx142 hxx143
         obtain ⟨v202, ev202, h⟩ := bnd_some h
         refine Ops.hv (fun KQ => ∀ v167 : Bool, (cnd v167 (bnd (idx a0 (w64 (v137 - 1))) fun v205 => cnd (decide (v205.fLx < v147.fLx)) (some (!true)) (bnd (idx a0 (w64 (v137 - 1))) fun v208 => cnd (v208.fLx == v147.fLx) (bnd (idx a0 (w64 (v137 - 1))) fun v211 => some (!(decide (v211.fSf < v147.fSf)))) (some (!false)))) (some false)) = some v202 → KQ 6 ⟨Zs3 a0 v164 v137 (a0.length : Int) (decide (v137 < (a0.length : Int))) (.vptr [(vI v147.fLx), (vI v147.fSf)]) (.v (.agg [(vI v147.fLx), (vI v147.fSf)])) v147.fLx v148 v155 d151 d152 d153 d154 v156 (.v (.agg [(vI 0), (vI 0)])) ((v147.fLx == 0) && ((v147.fSf == 0) && true)) (d162::d163::(dB v167)::(dB v167)::q37 []), [b25_0, (b25_1 v147)]⟩) ?_ fun G25g168 => Ops.sx (G25g168 v165 ev202)
         intro v167 ev202
         cases v167
         ·have ev202 := cnd_f ev202
          exact Ops.sg 33 39 <| Ops.sx (J25j203 U U U U U U U U U U U U U U U U U U U U U U U U U U U U U U U U false false (some_sub (fun v202 => f25_r1 m v137 v164 v202 = some sx145) ev202 h))
         ·have ev202 := cnd_t ev202
          refine Ops.sg 3 9 ?_
          obtain ⟨v205, ev205, ev202⟩ := bnd_some ev202
          refine Ops.on 10 (fun h0 e0 => (ix_r (T := T) h0 23 49 2 .plain e48 a0 (w64 (v137 - 1)) v205 ev205 kr kr (fun _ => rfl))) <| Ops.sg 6 16 <| Ops.hv (fun KQ => ∀ v206 : Bool, (cnd v206 (some (!true)) (bnd (idx a0 (w64 (v137 - 1))) fun v208 => cnd (v208.fLx == v147.fLx) (bnd (idx a0 (w64 (v137 - 1))) fun v211 => some (!(decide (v211.fSf < v147.fSf)))) (some (!false)))) = some v202 → KQ 16 ⟨Zs3 a0 v164 v137 (a0.length : Int) (decide (v137 < (a0.length : Int))) (.vptr [(vI v147.fLx), (vI v147.fSf)]) (.v (.agg [(vI v147.fLx), (vI v147.fSf)])) v147.fLx v148 v155 d151 d152 d153 d154 v156 (.v (.agg [(vI 0), (vI 0)])) ((v147.fLx == 0) && ((v147.fSf == 0) && true)) (d162::d163::(dB true)::(dB true)::(dP e48 a0)::(dI v137)::(dI (w64 (v137 - 1)))::(.vptr [(vI v205.fLx), (vI v205.fSf)])::(.vptr [(vI v205.fLx), (vI v205.fSf)])::(dI v205.fLx)::(.ptr 1 0)::(dI v147.fLx)::(dB v206)::(dB v206)::q27 []), [b25_0, (b25_1 v147)]⟩) ?_ fun G25g207 => Ops.sx (G25g207 (decide (v205.fLx < v147.fLx)) ev202)
          intro v206 ev202
          cases v206
          ·have ev202 := cnd_f ev202
           refine Ops.sg 3 19 ?_
           obtain ⟨v208, ev208, ev202⟩ := bnd_some ev202
           refine Ops.on 20 (fun h0 e0 => (ix_r (T := T) h0 23 49 2 .plain e48 a0 (w64 (v137 - 1)) v208 ev208 kr kr (fun _ => rfl))) <| Ops.sg 6 26 <| Ops.hv (fun KQ => ∀ v209 : Bool, (cnd v209 (bnd (idx a0 (w64 (v137 - 1))) fun v211 => some (!(decide (v211.fSf < v147.fSf)))) (some (!false))) = some v202 → KQ 26 ⟨Zs3 a0 v164 v137 (a0.length : Int) (decide (v137 < (a0.length : Int))) (.vptr [(vI v147.fLx), (vI v147.fSf)]) (.v (.agg [(vI v147.fLx), (vI v147.fSf)])) v147.fLx v148 v155 d151 d152 d153 d154 v156 (.v (.agg [(vI 0), (vI 0)])) ((v147.fLx == 0) && ((v147.fSf == 0) && true)) (d162::d163::(dB true)::(dB true)::(dP e48 a0)::(dI v137)::(dI (w64 (v137 - 1)))::(.vptr [(vI v205.fLx), (vI v205.fSf)])::(.vptr [(vI v205.fLx), (vI v205.fSf)])::(dI v205.fLx)::(.ptr 1 0)::(dI v147.fLx)::(dB false)::(dB false)::(dP e48 a0)::(dI v137)::(dI (w64 (v137 - 1)))::(.vptr [(vI v208.fLx), (vI v208.fSf)])::(.vptr [(vI v208.fLx), (vI v208.fSf)])::(dI v208.fLx)::(.ptr 1 0)::(dI v147.fLx)::(dB v209)::(dB v209)::q17 []), [b25_0, (b25_1 v147)]⟩) ?_ fun G25g210 => Ops.sx (G25g210 (v208.fLx == v147.fLx) ev202)
           intro v209 ev202
           cases v209
           ·have ev202 := cnd_f ev202
            exact Ops.sg 13 39 <| Ops.sx (J25j203 (dP e48 a0) (dI v137) (dI (w64 (v137 - 1))) ((.vptr [(vI v205.fLx), (vI v205.fSf)])) ((.vptr [(vI v205.fLx), (vI v205.fSf)])) (dI v205.fLx) (.ptr 1 0) (dI v147.fLx) (dB false) (dB false) (dP e48 a0) (dI v137) (dI (w64 (v137 - 1))) ((.vptr [(vI v208.fLx), (vI v208.fSf)])) ((.vptr [(vI v208.fLx), (vI v208.fSf)])) (dI v208.fLx) (.ptr 1 0) (dI v147.fLx) (dB false) (dB false) U U U U U U U U U (dB false) (dB false) (dB (!false)) true (!false) (some_sub (fun v202 => f25_r1 m v137 v164 v202 = some sx145) ev202 h))
           ·have ev202 := cnd_t ev202
            refine Ops.sg 3 29 ?_
            obtain ⟨v211, ev211, ev202⟩ := bnd_some ev202
            exact Ops.on 30 (fun h0 e0 => (ix_r (T := T) h0 23 49 2 .plain e48 a0 (w64 (v137 - 1)) v211 ev211 kr kr (fun _ => rfl))) <| Ops.sg 9 39 <| Ops.sx (J25j203 (dP e48 a0) (dI v137) (dI (w64 (v137 - 1))) ((.vptr [(vI v205.fLx), (vI v205.fSf)])) ((.vptr [(vI v205.fLx), (vI v205.fSf)])) (dI v205.fLx) (.ptr 1 0) (dI v147.fLx) (dB false) (dB false) (dP e48 a0) (dI v137) (dI (w64 (v137 - 1))) ((.vptr [(vI v208.fLx), (vI v208.fSf)])) ((.vptr [(vI v208.fLx), (vI v208.fSf)])) (dI v208.fLx) (.ptr 1 0) (dI v147.fLx) (dB true) (dB true) (dP e48 a0) (dI v137) (dI (w64 (v137 - 1))) ((.vptr [(vI v211.fLx), (vI v211.fSf)])) (.vptr [(vI v211.fSf)]) (dI v211.fSf) (.ptr 1 1) (dI v147.fSf) (dB (decide (v211.fSf < v147.fSf))) (dB (decide (v211.fSf < v147.fSf))) (dB (decide (v211.fSf < v147.fSf))) (dB (!(decide (v211.fSf < v147.fSf)))) true (!(decide (v211.fSf < v147.fSf))) (some_sub (fun v202 => f25_r1 m v137 v164 v202 = some sx145) ev202 h))
          ·have ev202 := cnd_t ev202
           exact Ops.sg 23 39 <| Ops.sx (J25j203 (dP e48 a0) (dI v137) (dI (w64 (v137 - 1))) ((.vptr [(vI v205.fLx), (vI v205.fSf)])) ((.vptr [(vI v205.fLx), (vI v205.fSf)])) (dI v205.fLx) (.ptr 1 0) (dI v147.fLx) (dB true) (dB true) U U U U U U U U U U U U U U U U U U U U (dB true) (dB (!true)) true (!true) (some_sub (fun v202 => f25_r1 m v137 v164 v202 = some sx145) ev202 h))
        refine Ops.hv (fun KQ => ∀ v160 : Bool, f25_r2 m a0 v137 v147 v160 (v160 && (decide (v137 > 0))) = some sx145 → KQ 2 ⟨Zs3 a0 v160 v137 (a0.length : Int) (decide (v137 < (a0.length : Int))) (.vptr [(vI v147.fLx), (vI v147.fSf)]) (.v (.agg [(vI v147.fLx), (vI v147.fSf)])) v147.fLx v148 v155 d151 d152 d153 d154 v156 (.v (.agg [(vI 0), (vI 0)])) ((v147.fLx == 0) && ((v147.fSf == 0) && true)) (q40 (q1 [])), [b25_0, (b25_1 v147)]⟩) ?_ fun G25g161 => Ops.sx (G25g161 v136 h)
        intro v160 h
        cases v160
        ·exact Ops.sg 3 5 <| Ops.sx (J25j166 U U false false h)
        ·exact Ops.sg 3 5 <| Ops.sx (J25j166 (dI v137) (dB (decide (v137 > 0))) true (decide (v137 > 0)) h)
     obtain ⟨v156, ev156, h⟩ := bnd_some h
     refine Ops.hv (fun KQ => ∀ v149 : Bool, (cnd v149 (some true) (bnd (f45 m v147.fSf 0 1114111) fun v212 => some (!v212))) = some v156 → KQ 5 ⟨Zs28 a0 v136 v137 (a0.length : Int) (decide (v137 < (a0.length : Int))) (.vptr [(vI v147.fLx), (vI v147.fSf)]) (.v (.agg [(vI v147.fLx), (vI v147.fSf)])) v147.fLx v148 v149 (q40 (q15 [])), [b25_0, (b25_1 v147)]⟩) ?_ fun G25g150 => Ops.sx (G25g150 (!v148) ev156)
     intro v149 ev156
     cases v149
     ·have ev156 := cnd_f ev156
      refine Ops.sg 2 7 ?_
      obtain ⟨v212, ev212, ev156⟩ := bnd_some ev156
      exact Ops.on 8 (fun h0 e0 => (call_ok (E' := E) (h := h0) kr (Args.v (vI v147.fSf) (eI v147.fSf) kr (Args.v (vI 0) (eI 0) kr (Args.v (vI 1114111) (eI 1114111) kr Args.nil))) (ok45 m v147.fSf 0 1114111 v212 ev212 n om))) <| Ops.sg 2 10 <| Ops.sx (J25j157 (.ptr 1 1) (dI v147.fSf) (dB v212) (dB (!v212)) false (!v212) (some_sub (fun v156 => f25_r3 m a0 v136 v137 v147 v156 = some sx145) ev156 h))
     ·have ev156 := cnd_t ev156
      exact Ops.sg 5 10 <| Ops.sx (J25j157 U U U U true true (some_sub (fun v156 => f25_r3 m a0 v136 v137 v147 v156 = some sx145) ev156 h))
    ·refine Wp.ex 0 (sqQ.x (seqQ.x ?_))
     cases h
     exact lpQ.x (blkQ.w ⟨Zs18 a0 v136 (a0.length : Int) ((dI v137)::q40 (q24 [])), [b25_0]⟩ (hxx143 (v136, v137)  hsx146))
  refine Wp.loop' k25_0 1 kr ⟨Zs18 a0 a2 (a0.length : Int) ((dI 0)::q40 (q24 [])), [b25_0]⟩ kr ?_
  rcases brk_some h with ⟨r215, er215, h⟩ | ⟨y214, ey214, h⟩
  ·refine hLx213 _ a2 0  _ er215 n om (fun r er σ hσ => ?_) (fun y  ey => by cases ey)
   cases er
   exact seqQ.r <| fnQ.r' (X25 n) (fun z => (e29 z)) h hσ
  ·refine hLx213 _ a2 0  _ ey214 n om (fun r er => by cases er) (fun y  ey => ?_)
   cases ey
   exact seqQ.n (Sg 2 (Dn (Wp.rt (fnQ.r' (X25 n) (fun z => (e29 z)) h (RetOk.mk' (.v (.agg [(vI 0), (vI 0)])) kr kr)))))
def f46 (m : Nat) (a0 a1 : Int) : Option S29 :=
 some ((⟨a0, a1⟩ : S29))
abbrev X46 (n : Nat) : Cx := cxOf Proofs.Try.prog E 46 n
theorem ok46 (m : Nat) (a0 a1 : Int) (o : S29) (h : f46 m a0 a1 = some o) (n : Nat) (hn : m + 1 ≤ n) : Fn Proofs.Try.prog E n 46 [.v (eI a0), .v (eI a1)] (e29 o) := by
 obtain ⟨n, rfl⟩ : ∃ q, n = q + 1 := ⟨n - 1, om⟩
 unfold f46 at h
 exact Fn.of kr kr kr ⟨(dI a0)::(dI a1)::u6 [], []⟩ kr (Sg 1 (Dn (Sg 4 (Dn (Wp.rt (fnQ.r' (X46 n) (fun z => (e29 z)) h (RetOk.mk' (.v (.agg [(vI a0), (vI a1)])) kr kr)))))))
def f60_B1 (m : Nat) (a0 : S72) (a1 : (List S48)) (a2 v41 : Int) : Option (Stp Bool (Int)) :=
 cnd (decide (v41 < (a0.fLf.length : Int)))
 (bnd (idx a0.fLf v41) fun v51 =>
 bnd (idx a1 (w64 (w64 (a2 - (a0.fLf.length : Int)) + v41))) fun v52 =>
 bnd (f67 m v51 v52) fun v53 =>
 cnd (!v53)
 (some (.ret false))
 (some (.nxt (w64 (v41 + 1)))))
 (some (.brk v41))
def f60_B2 (m : Nat) (a0 : S72) (a1 : (List S48)) (a2 v64 : Int) : Option (Stp Bool (Int)) :=
 cnd (decide (v64 < (a0.fRt.length : Int)))
 (bnd (idx a0.fRt v64) fun v74 =>
 bnd (idx a1 (w64 (w64 (a2 + 1) + v64))) fun v75 =>
 bnd (f67 m v74 v75) fun v76 =>
 cnd (!v76)
 (some (.ret false))
 (some (.nxt (w64 (v64 + 1)))))
 (some (.brk v64))
def f60_r3 (m : Nat) (a0 : S72) (a1 : (List S48)) (a2 : Int) (v32 : Bool) : Option Bool :=
 cnd v32
 (some false)
 (brk (iter (fun (y : Int) => f60_B1 m a0 a1 a2 y) m 0) some fun y55 =>
 brk (iter (fun (y : Int) => f60_B2 m a0 a1 a2 y) m 0) some fun y78 =>
 some true)
def f60_r4 (m : Nat) (a0 : S72) (a1 : (List S48)) (a2 : Int) (v19 : Bool) : Option Bool :=
 f60_r3 m a0 a1 a2 (v19 || (a0.fEnd && ((w64 (w64 (a2 + 1) + (a0.fRt.length : Int))) != (a1.length : Int))))
def f60_r5 (m : Nat) (a0 : S72) (a1 : (List S48)) (a2 : Int) (v8 : Bool) : Option Bool :=
 f60_r4 m a0 a1 a2 (v8 || (a0.fBg && ((w64 (a2 - (a0.fLf.length : Int))) != 0)))
def f60 (m : Nat) (a0 : S72) (a1 : (List S48)) (a2 : Int) : Option Bool :=
 f60_r5 m a0 a1 a2 ((decide (w64 (a2 - (a0.fLf.length : Int)) < 0)) || (decide (w64 (w64 (a2 + 1) + (a0.fRt.length : Int)) > (a1.length : Int))))
abbrev X60 (n : Nat) : Cx := cxOf Proofs.Try.prog E 60 n
def C60 : Code := bodyOf Proofs.Try.prog 60
abbrev b60_0 (w0 : S72) : AObj := .cells [(dP e48 w0.fLf), (dP e48 w0.fRt), (dB w0.fBg), (dB w0.fEnd)]
abbrev k60_0 : List Nat := [1, 2, 3, 6, 7, 51, 52, 53]
abbrev k60_1 : List Nat := [1, 2, 6, 69, 70, 71]
theorem ok60 (m : Nat) (a0 : S72) (a1 : (List S48)) (a2 : Int) (o : Bool) (h : f60 m a0 a1 a2 = some o) (n : Nat) (hn : m + 2 ≤ n) : Fn Proofs.Try.prog E n 60 [.v (e72 a0), .v ((eL e48) a1), .v (eI a2)] (eB o) := by
 obtain ⟨n, rfl⟩ : ∃ q, n = q + 1 := ⟨n - 1, om⟩
 unfold f60 at h
 refine Fn.of kr kr kr ⟨(.v (.agg [(vP e48 a0.fLf), (vP e48 a0.fRt), (vB a0.fBg), (vB a0.fEnd)]))::(dP e48 a1)::(dI a2)::u40 (u40 (u4 [])), []⟩ kr (Sg 2 (Dn (Sg 3 (Ops.on 4 (fun h0 e0 => (len_r (T := T) h0 23 49 .plain e48 a0.fLf kr)) (Ops.sg 5 9 (Ops.on 10 (fun h0 e0 => (len_r (T := T) h0 23 49 .plain e48 a0.fRt kr)) (Ops.sg 3 13 (Dn (Wp.sq (Sg 3 (Ops.hv (fun KQ => ∀ (d3 d4 d5 d6 : D) (v7 v8 : Bool), f60_r5 m a0 a1 a2 v8 = some o → KQ 8 ⟨Zs1 (.v (.agg [(vP e48 a0.fLf), (vP e48 a0.fRt), (vB a0.fBg), (vB a0.fEnd)])) a1 a2 (w64 (a2 - (a0.fLf.length : Int))) (w64 (w64 (a2 + 1) + (a0.fRt.length : Int))) a0.fLf (a0.fLf.length : Int) (w64 (a2 + 1)) a0.fRt (a0.fRt.length : Int) v7 (d3::d4::d5::d6::(dB v8)::u40 (u15 [])), [(b60_0 a0)]⟩) ?_ fun J60j9 => ?_)))))))))))
 ·intro d3 d4 d5 d6 v7 v8 h
  unfold f60_r5 at h
  refine Ops.sg 1 9 <| Ops.hv (fun KQ => ∀ (d12 d13 d14 d15 d16 d17 : D) (v18 v19 : Bool), f60_r4 m a0 a1 a2 v19 = some o → KQ 16 ⟨Zs1 (.v (.agg [(vP e48 a0.fLf), (vP e48 a0.fRt), (vB a0.fBg), (vB a0.fEnd)])) a1 a2 (w64 (a2 - (a0.fLf.length : Int))) (w64 (w64 (a2 + 1) + (a0.fRt.length : Int))) a0.fLf (a0.fLf.length : Int) (w64 (a2 + 1)) a0.fRt (a0.fRt.length : Int) v7 (d3::d4::d5::d6::(dB v18)::(dB v18)::d12::d13::d14::d15::d16::d17::(dB v19)::u40 (u7 [])), [(b60_0 a0)]⟩) ?_ fun J60j20 => ?_
  ·intro d12 d13 d14 d15 d16 d17 v18 v19 h
   unfold f60_r4 at h
   refine Ops.sg 1 17 <| Ops.hv (fun KQ => ∀ (d23 d24 d25 d26 d27 d28 d29 d30 : D) (v31 v32 : Bool), f60_r3 m a0 a1 a2 v32 = some o → KQ 26 ⟨Zs1 (.v (.agg [(vP e48 a0.fLf), (vP e48 a0.fRt), (vB a0.fBg), (vB a0.fEnd)])) a1 a2 (w64 (a2 - (a0.fLf.length : Int))) (w64 (w64 (a2 + 1) + (a0.fRt.length : Int))) a0.fLf (a0.fLf.length : Int) (w64 (a2 + 1)) a0.fRt (a0.fRt.length : Int) v7 (d3::d4::d5::d6::(dB v18)::(dB v18)::d12::d13::d14::d15::d16::d17::(dB v31)::(dB v31)::d23::d24::d25::d26::d27::d28::d29::d30::(dB v32)::u37 []), [(b60_0 a0)]⟩) ?_ fun J60j33 => ?_
   ·intro d23 d24 d25 d26 d27 d28 d29 d30 v31 v32 h
    unfold f60_r3 at h
    refine Dn <| Wp.cd h [1, 2, 3, 6, 7] 1 (fun h => ?_) (fun h => ?_)
    ·exact Sg 1 (Dn (Wp.rt (sqQ.r (seqQ.r (fnQ.r' (X60 n) (fun z => (eB z)) h (RetOk.mk' (dB false) kr kr))))))
    ·refine Kn (Wp.sq (Sg 2 (Ops.on 3 (fun h0 e0 => (len_r (T := T) h0 23 49 .plain e48 a0.fLf kr)) (Ops.sg 1 4 (Dn (Wp.bk 0 [1, 2, 3, 6] 1 ?_))))))
     have hLx54 : ∀ (kx43 : Nat) (v41 : Int)  (ox42 : Bool ⊕ (Int)), iter (fun (y : Int) => f60_B1 m a0 a1 a2 y) kx43 v41 = some ox42 → ∀ nx44, kx43 ≤ nx44 → (∀ r, ox42 = .inl r → ∀ σ, RetOk (X60 n) (resOf Proofs.Try.prog 60) (eB r) σ → (seqQ (X60 n) (cR (cR (cR (cR C60)))) (fnQ (X60 n).E.T (resOf Proofs.Try.prog 60) (eB o))) .ret σ) → (∀ (y : Int) , ox42 = .inr y → (seqQ (X60 n) (cR (cR (cR (cR C60)))) (fnQ (X60 n).E.T (resOf Proofs.Try.prog 60) (eB o))) .normal ⟨Zs8 a1 a2 ((dI (w64 (a2 - (a0.fLf.length : Int))))::q40 (q3 ((dP e48 a0.fLf)::(dI (a0.fLf.length : Int))::(dI y)::q33 []))), [(b60_0 a0)]⟩) → Lp (X60 n) k60_0 1 (cL (cL (cR (cL (cR (cR (cR C60))))))) nx44 ⟨Zs8 a1 a2 ((dI (w64 (a2 - (a0.fLf.length : Int))))::q40 (q3 ((dP e48 a0.fLf)::(dI (a0.fLf.length : Int))::(dI v41)::q33 []))), [(b60_0 a0)]⟩ (blkQ (X60 n) 0 [1, 2, 3, 6] 1 (seqQ (X60 n) (cR (cR (cR (cR C60)))) (fnQ (X60 n).E.T (resOf Proofs.Try.prog 60) (eB o)))) := by
      intro kx43
      induction kx43 with
      | zero => intro v41  ox42 h; exact (iter_zero h).elim
      | succ kx43 ihx45 =>
       intro v41  ox42 h nx44 hnx48 hrx46 hxx47
       obtain ⟨nx44, rfl⟩ : ∃ q, nx44 = q + 1 := ⟨nx44 - 1, om⟩
       obtain ⟨sx49, h, hsx50⟩ := iter_some h
       have h : f60_B1 m a0 a1 a2 v41 = some sx49 := h
       unfold f60_B1 at h
       refine Lp.succ (Sg 1 (Dn (Wp.sq (Wp.cd h k60_0 1 (fun h => ?_) (fun h => ?_)))))
       ·refine Kn (Wp.sq (Wp.bk 1 k60_0 1 (Sg 1 ?_)))
        obtain ⟨v51, ev51, h⟩ := bnd_some h
        refine Ops.on 2 (fun h0 e0 => (ix_r (T := T) h0 23 49 2 .plain e48 a0.fLf v41 v51 ev51 kr kr (fun _ => rfl))) <| Ops.sg 4 6 (Dn (Sg 5 ?_))
        obtain ⟨v52, ev52, h⟩ := bnd_some h
        refine Ops.on 6 (fun h0 e0 => (ix_r (T := T) h0 23 49 2 .plain e48 a1 (w64 (w64 (a2 - (a0.fLf.length : Int)) + v41)) v52 ev52 kr kr (fun _ => rfl))) <| Ops.sg 1 7 ?_
        obtain ⟨v53, ev53, h⟩ := bnd_some h
        refine Ops.on 8 (fun h0 e0 => (call_ok (E' := E) (h := h0) kr (Args.v (.agg [(vI v51.fLx), (vI v51.fSf)]) (e48 v51) kr (Args.v (.agg [(vI v52.fLx), (vI v52.fSf)]) (e48 v52) kr Args.nil)) (ok67 m v51 v52 v53 ev53 n om))) <| Ops.sg 1 9 (Dn (Wp.cd h k60_0 2 (fun h => ?_) (fun h => ?_)))
        ·refine Sg 1 (Dn (Wp.rt (sqQ.r (blkQ.r (seqQ.r ?_)))))
         cases h
         exact lpQ.r (blkQ.r (hrx46 _ hsx50 _ (RetOk.forget k60_0 kr (RetOk.mk' (dB false) kr kr))))
        ·refine Wp.sk (sqQ.n' (blkQ.n' (seqQ.n (Rg 2 (Ops.dn (lpQ.m ⟨Zs8 a1 a2 ((dI (w64 (a2 - (a0.fLf.length : Int))))::q40 (q3 ((dP e48 a0.fLf)::(dI (a0.fLf.length : Int))::(dI (w64 (v41 + 1)))::q33 []))), [(b60_0 a0)]⟩ ?_))))))
         cases h
         exact ihx45 (w64 (v41 + 1))  _ hsx50 _ om hrx46 hxx47
       ·refine Wp.ex 0 (sqQ.x (seqQ.x ?_))
        cases h
        exact lpQ.x (blkQ.w ⟨Zs8 a1 a2 ((dI (w64 (a2 - (a0.fLf.length : Int))))::q40 (q3 ((dP e48 a0.fLf)::(dI (a0.fLf.length : Int))::(dI v41)::q33 []))), [(b60_0 a0)]⟩ (hxx47 v41  hsx50))
     refine Wp.loop' k60_0 1 kr ⟨Zs8 a1 a2 ((dI (w64 (a2 - (a0.fLf.length : Int))))::q40 (q3 ((dP e48 a0.fLf)::(dI (a0.fLf.length : Int))::(dI 0)::q33 []))), [(b60_0 a0)]⟩ kr ?_
     rcases brk_some h with ⟨r56, er56, h⟩ | ⟨y55, ey55, h⟩
     ·refine hLx54 _ 0  _ er56 n om (fun r er σ hσ => ?_) (fun y  ey => by cases ey)
      cases er
      exact seqQ.r <| fnQ.r' (X60 n) (fun z => (eB z)) h hσ
     ·refine hLx54 _ 0  _ ey55 n om (fun r er => by cases er) (fun y  ey => ?_)
      cases ey
      refine seqQ.n (Wp.sq (Sg 2 (Ops.on 3 (fun h0 e0 => (len_r (T := T) h0 23 49 .plain e48 a0.fRt kr)) (Ops.sg 1 4 (Dn (Wp.bk 2 [6] 1 ?_))))))
      have hLx77 : ∀ (kx66 : Nat) (v64 : Int)  (ox65 : Bool ⊕ (Int)), iter (fun (y : Int) => f60_B2 m a0 a1 a2 y) kx66 v64 = some ox65 → ∀ nx67, kx66 ≤ nx67 → (∀ r, ox65 = .inl r → ∀ σ, RetOk (X60 n) (resOf Proofs.Try.prog 60) (eB r) σ → (seqQ (X60 n) (cR (cR (cR (cR (cR C60))))) (fnQ (X60 n).E.T (resOf Proofs.Try.prog 60) (eB o))) .ret σ) → (∀ (y : Int) , ox65 = .inr y → (seqQ (X60 n) (cR (cR (cR (cR (cR C60))))) (fnQ (X60 n).E.T (resOf Proofs.Try.prog 60) (eB o))) .normal ⟨Zs16 a1 a2 a0.fRt (a0.fRt.length : Int) ((dI y)::q15 []), [(b60_0 a0)]⟩) → Lp (X60 n) k60_1 1 (cL (cL (cR (cL (cR (cR (cR (cR C60)))))))) nx67 ⟨Zs16 a1 a2 a0.fRt (a0.fRt.length : Int) ((dI v64)::q15 []), [(b60_0 a0)]⟩ (blkQ (X60 n) 2 [6] 1 (seqQ (X60 n) (cR (cR (cR (cR (cR C60))))) (fnQ (X60 n).E.T (resOf Proofs.Try.prog 60) (eB o)))) := by
       intro kx66
       induction kx66 with
       | zero => intro v64  ox65 h; exact (iter_zero h).elim
       | succ kx66 ihx68 =>
        intro v64  ox65 h nx67 hnx71 hrx69 hxx70
        obtain ⟨nx67, rfl⟩ : ∃ q, nx67 = q + 1 := ⟨nx67 - 1, om⟩
        obtain ⟨sx72, h, hsx73⟩ := iter_some h
        have h : f60_B2 m a0 a1 a2 v64 = some sx72 := h
        unfold f60_B2 at h
        refine Lp.succ (Sg 1 (Dn (Wp.sq (Wp.cd h k60_1 1 (fun h => ?_) (fun h => ?_)))))
        ·refine Kn (Wp.sq (Wp.bk 3 k60_1 1 (Sg 1 ?_)))
         obtain ⟨v74, ev74, h⟩ := bnd_some h
         refine Ops.on 2 (fun h0 e0 => (ix_r (T := T) h0 23 49 2 .plain e48 a0.fRt v64 v74 ev74 kr kr (fun _ => rfl))) <| Ops.sg 4 6 (Dn (Sg 6 ?_))
         obtain ⟨v75, ev75, h⟩ := bnd_some h
         refine Ops.on 7 (fun h0 e0 => (ix_r (T := T) h0 23 49 2 .plain e48 a1 (w64 (w64 (a2 + 1) + v64)) v75 ev75 kr kr (fun _ => rfl))) <| Ops.sg 1 8 ?_
         obtain ⟨v76, ev76, h⟩ := bnd_some h
         refine Ops.on 9 (fun h0 e0 => (call_ok (E' := E) (h := h0) kr (Args.v (.agg [(vI v74.fLx), (vI v74.fSf)]) (e48 v74) kr (Args.v (.agg [(vI v75.fLx), (vI v75.fSf)]) (e48 v75) kr Args.nil)) (ok67 m v74 v75 v76 ev76 n om))) <| Ops.sg 1 10 (Dn (Wp.cd h k60_1 2 (fun h => ?_) (fun h => ?_)))
         ·refine Sg 1 (Dn (Wp.rt (sqQ.r (blkQ.r (seqQ.r ?_)))))
          cases h
          exact lpQ.r (blkQ.r (hrx69 _ hsx73 _ (RetOk.forget k60_1 kr (RetOk.mk' (dB false) kr kr))))
         ·refine Wp.sk (sqQ.n' (blkQ.n' (seqQ.n (Rg 2 (Ops.dn (lpQ.m ⟨Zs16 a1 a2 a0.fRt (a0.fRt.length : Int) ((dI (w64 (v64 + 1)))::q15 []), [(b60_0 a0)]⟩ ?_))))))
          cases h
          exact ihx68 (w64 (v64 + 1))  _ hsx73 _ om hrx69 hxx70
        ·refine Wp.ex 2 (sqQ.x (seqQ.x ?_))
         cases h
         exact lpQ.x (blkQ.w ⟨Zs16 a1 a2 a0.fRt (a0.fRt.length : Int) ((dI v64)::q15 []), [(b60_0 a0)]⟩ (hxx70 v64  hsx73))
      refine Wp.loop' k60_1 1 kr ⟨Zs16 a1 a2 a0.fRt (a0.fRt.length : Int) ((dI 0)::q15 []), [(b60_0 a0)]⟩ kr ?_
      rcases brk_some h with ⟨r79, er79, h⟩ | ⟨y78, ey78, h⟩
      ·refine hLx77 _ 0  _ er79 n om (fun r er σ hσ => ?_) (fun y  ey => by cases ey)
       cases er
       exact seqQ.r <| fnQ.r' (X60 n) (fun z => (eB z)) h hσ
      ·refine hLx77 _ 0  _ ey78 n om (fun r er => by cases er) (fun y  ey => ?_)
       cases ey
       exact seqQ.n (Sg 1 (Dn (Wp.rt (fnQ.r' (X60 n) (fun z => (eB z)) h (RetOk.mk' (dB true) kr kr)))))
   refine Ops.hv (fun KQ => ∀ v21 : Bool, f60_r3 m a0 a1 a2 (v21 || (a0.fEnd && ((w64 (w64 (a2 + 1) + (a0.fRt.length : Int))) != (a1.length : Int)))) = some o → KQ 17 ⟨Zs1 (.v (.agg [(vP e48 a0.fLf), (vP e48 a0.fRt), (vB a0.fBg), (vB a0.fEnd)])) a1 a2 (w64 (a2 - (a0.fLf.length : Int))) (w64 (w64 (a2 + 1) + (a0.fRt.length : Int))) a0.fLf (a0.fLf.length : Int) (w64 (a2 + 1)) a0.fRt (a0.fRt.length : Int) v7 (d3::d4::d5::d6::(dB v18)::(dB v18)::d12::d13::d14::d15::d16::d17::(dB v21)::(dB v21)::u40 (u6 [])), [(b60_0 a0)]⟩) ?_ fun G60g22 => Ops.sx (G60g22 v19 h)
   intro v21 h
   cases v21
   ·refine Ops.sg 3 20 <| Ops.hv (fun KQ => ∀ v80 : Bool, (f60_r3 m a0 a1 a2 (false || (v80 && ((w64 (w64 (a2 + 1) + (a0.fRt.length : Int))) != (a1.length : Int))))) = some o → KQ 20 ⟨Zs1 (.v (.agg [(vP e48 a0.fLf), (vP e48 a0.fRt), (vB a0.fBg), (vB a0.fEnd)])) a1 a2 (w64 (a2 - (a0.fLf.length : Int))) (w64 (w64 (a2 + 1) + (a0.fRt.length : Int))) a0.fLf (a0.fLf.length : Int) (w64 (a2 + 1)) a0.fRt (a0.fRt.length : Int) v7 (d3::d4::d5::d6::(dB v18)::(dB v18)::d12::d13::d14::d15::d16::d17::(dB false)::(dB false)::(.ptr 0 3)::(dB v80)::(dB v80)::u40 (u3 [])), [(b60_0 a0)]⟩) ?_ fun G60g81 => Ops.sx (G60g81 a0.fEnd h)
    intro v80 h
    cases v80
    ·exact Ops.sg 6 26 <| Ops.sx (J60j33 (.ptr 0 3) (dB false) (dB false) U U U U (dB false) false false h)
    ·exact Ops.sg 2 22 <| Ops.on 23 (fun h0 e0 => (len_r (T := T) h0 23 49 .plain e48 a1 kr)) <| Ops.sg 3 26 <| Ops.sx (J60j33 (.ptr 0 3) (dB true) (dB true) (dI (w64 (w64 (a2 + 1) + (a0.fRt.length : Int)))) (dP e48 a1) (dI (a1.length : Int)) (dB ((w64 (w64 (a2 + 1) + (a0.fRt.length : Int))) != (a1.length : Int))) (dB ((w64 (w64 (a2 + 1) + (a0.fRt.length : Int))) != (a1.length : Int))) false ((w64 (w64 (a2 + 1) + (a0.fRt.length : Int))) != (a1.length : Int)) h)
   ·exact Ops.sg 9 26 <| Ops.sx (J60j33 U U U U U U U U true true h)
  refine Ops.hv (fun KQ => ∀ v10 : Bool, f60_r4 m a0 a1 a2 (v10 || (a0.fBg && ((w64 (a2 - (a0.fLf.length : Int))) != 0))) = some o → KQ 9 ⟨Zs1 (.v (.agg [(vP e48 a0.fLf), (vP e48 a0.fRt), (vB a0.fBg), (vB a0.fEnd)])) a1 a2 (w64 (a2 - (a0.fLf.length : Int))) (w64 (w64 (a2 + 1) + (a0.fRt.length : Int))) a0.fLf (a0.fLf.length : Int) (w64 (a2 + 1)) a0.fRt (a0.fRt.length : Int) v7 (d3::d4::d5::d6::(dB v10)::(dB v10)::u40 (u14 [])), [(b60_0 a0)]⟩) ?_ fun G60g11 => Ops.sx (G60g11 v8 h)
  intro v10 h
  cases v10
  ·refine Ops.sg 3 12 <| Ops.hv (fun KQ => ∀ v82 : Bool, (f60_r4 m a0 a1 a2 (false || (v82 && ((w64 (a2 - (a0.fLf.length : Int))) != 0)))) = some o → KQ 12 ⟨Zs1 (.v (.agg [(vP e48 a0.fLf), (vP e48 a0.fRt), (vB a0.fBg), (vB a0.fEnd)])) a1 a2 (w64 (a2 - (a0.fLf.length : Int))) (w64 (w64 (a2 + 1) + (a0.fRt.length : Int))) a0.fLf (a0.fLf.length : Int) (w64 (a2 + 1)) a0.fRt (a0.fRt.length : Int) v7 (d3::d4::d5::d6::(dB false)::(dB false)::(.ptr 0 2)::(dB v82)::(dB v82)::u40 (u11 [])), [(b60_0 a0)]⟩) ?_ fun G60g83 => Ops.sx (G60g83 a0.fBg h)
   intro v82 h
   cases v82
   ·exact Ops.sg 4 16 <| Ops.sx (J60j20 (.ptr 0 2) (dB false) (dB false) U U (dB false) false false h)
   ·exact Ops.sg 4 16 <| Ops.sx (J60j20 (.ptr 0 2) (dB true) (dB true) (dI (w64 (a2 - (a0.fLf.length : Int)))) (dB ((w64 (a2 - (a0.fLf.length : Int))) != 0)) (dB ((w64 (a2 - (a0.fLf.length : Int))) != 0)) false ((w64 (a2 - (a0.fLf.length : Int))) != 0) h)
  ·exact Ops.sg 7 16 <| Ops.sx (J60j20 U U U U U U true true h)
 refine Ops.hv (fun KQ => ∀ v1 : Bool, f60_r5 m a0 a1 a2 (v1 || (decide (w64 (w64 (a2 + 1) + (a0.fRt.length : Int)) > (a1.length : Int)))) = some o → KQ 3 ⟨Zs1 (.v (.agg [(vP e48 a0.fLf), (vP e48 a0.fRt), (vB a0.fBg), (vB a0.fEnd)])) a1 a2 (w64 (a2 - (a0.fLf.length : Int))) (w64 (w64 (a2 + 1) + (a0.fRt.length : Int))) a0.fLf (a0.fLf.length : Int) (w64 (a2 + 1)) a0.fRt (a0.fRt.length : Int) v1 (u40 (u20 [])), [(b60_0 a0)]⟩) ?_ fun G60g2 => Ops.sx (G60g2 (decide (w64 (a2 - (a0.fLf.length : Int)) < 0)) h)
 intro v1 h
 cases v1
 ·exact Ops.sg 2 5 <| Ops.on 6 (fun h0 e0 => (len_r (T := T) h0 23 49 .plain e48 a1 kr)) <| Ops.sg 2 8 <| Ops.sx (J60j9 (dI (w64 (w64 (a2 + 1) + (a0.fRt.length : Int)))) (dP e48 a1) (dI (a1.length : Int)) (dB (decide (w64 (w64 (a2 + 1) + (a0.fRt.length : Int)) > (a1.length : Int)))) false (decide (w64 (w64 (a2 + 1) + (a0.fRt.length : Int)) > (a1.length : Int))) h)
 ·exact Ops.sg 5 8 <| Ops.sx (J60j9 U U U U true true h)
def f38_r1 (m : Nat) (v17 : Int) (v35 : Bool) : Option (Stp Bool (Bool × Int)) :=
 some (.nxt (v35, w64 (v17 + 1)))
def f38_B2 (m : Nat) (a0 : S57) (a1 : (List S48)) (a2 : Int) (v16 : Bool) (v17 : Int) : Option (Stp Bool (Bool × Int)) :=
 cnd (decide (v17 < (a0.fCx.length : Int)))
 (bnd (idx a0.fCx v17) fun v27 =>
 bnd (cnd v16
 (some true)
 (bnd (f60 m v27 a1 a2) fun v37 =>
 some v37)) fun v35 =>
 f38_r1 m v17 v35)
 (some (.brk (v16, v17)))
def f38_r3 (m : Nat) (v68 : Bool) : Option Bool :=
 some v68
def f38_r4 (m : Nat) (v75 : Bool) : Option Bool :=
 some v75
def f38_r5 (m : Nat) (a0 : S57) (y39 : Bool × Int) (v41 : S48) (v46 v62 : Bool) : Option Bool :=
 cnd (a0.fKn == 1)
 (some v46)
 (cnd (a0.fKn == 2)
 (some v62)
 (cnd (a0.fKn == 3)
 (f38_r3 m (v46 && v62))
 (f38_r4 m ((!((v41.fLx == a0.fPr.fLx) && ((v41.fSf == a0.fPr.fSf) && true))) || (!y39.1)))))
def f38_r6 (m : Nat) (a0 : S57) (y39 : Bool × Int) (v41 : S48) (v46 v55 : Bool) : Option Bool :=
 f38_r5 m a0 y39 v41 v46 (v55 || (!y39.1))
def f38_r7 (m : Nat) (a0 : S57) (y39 : Bool × Int) (v41 : S48) (v46 : Bool) : Option Bool :=
 f38_r6 m a0 y39 v41 v46 ((v41.fLx != a0.fPr.fLx) || ((v41.fLx == a0.fPr.fLx) && ((v41.fSf == a0.fPr.fSf) && true)))
def f38 (m : Nat) (a0 : S57) (a1 : (List S48)) (a2 : Int) : Option Bool :=
 brk (iter (fun (y : Bool × Int) => f38_B2 m a0 a1 a2 y.1 y.2) m (false, 0)) some fun y39 =>
 bnd (idx a1 a2) fun v41 =>
 f38_r7 m a0 y39 v41 ((!((v41.fLx == a0.fPr.fLx) && ((v41.fSf == a0.fPr.fSf) && true))) || y39.1)
abbrev X38 (n : Nat) : Cx := cxOf Proofs.Try.prog E 38 n
def C38 : Code := bodyOf Proofs.Try.prog 38
abbrev b38_0 (w0 : S57) : AObj := .cells [(dI w0.fKn), (dI w0.fPr.fLx), (dI w0.fPr.fSf), (dP e72 w0.fCx)]
abbrev b38_1 (w0 : S48) : AObj := .cells [(dI w0.fLx), (dI w0.fSf)]
theorem ok38 (m : Nat) (a0 : S57) (a1 : (List S48)) (a2 : Int) (o : Bool) (h : f38 m a0 a1 a2 = some o) (n : Nat) (hn : m + 3 ≤ n) : Fn Proofs.Try.prog E n 38 [.v (e57 a0), .v ((eL e48) a1), .v (eI a2)] (eB o) := by
 obtain ⟨n, rfl⟩ : ∃ q, n = q + 1 := ⟨n - 1, om⟩
 unfold f38 at h
 refine Fn.of kr kr kr ⟨(.v (.agg [(vI a0.fKn), (vI a0.fPr.fLx), (vI a0.fPr.fSf), (vP e72 a0.fCx)]))::(dP e48 a1)::(dI a2)::u40 (u34 []), []⟩ kr (Sg 2 (Dn (Sg 1 (Dn (Wp.sq (Sg 2 (Ops.on 3 (fun h0 e0 => (len_r (T := T) h0 56 73 .plain e72 a0.fCx kr)) (Ops.sg 1 4 (Dn (Wp.bk 0 [1, 2, 3, 6, 7] 1 ?_))))))))))
 have hLx38 : ∀ (kx19 : Nat) (v16 : Bool) (v17 : Int)  (ox18 : Bool ⊕ (Bool × Int)), iter (fun (y : Bool × Int) => f38_B2 m a0 a1 a2 y.1 y.2) kx19 (v16, v17) = some ox18 → ∀ nx20, kx19 ≤ nx20 → (∀ r, ox18 = .inl r → ∀ σ, RetOk (X38 n) (resOf Proofs.Try.prog 38) (eB r) σ → (seqQ (X38 n) (cR (cR (cR C38))) (fnQ (X38 n).E.T (resOf Proofs.Try.prog 38) (eB o))) .ret σ) → (∀ (y : Bool × Int) , ox18 = .inr y → (seqQ (X38 n) (cR (cR (cR C38))) (fnQ (X38 n).E.T (resOf Proofs.Try.prog 38) (eB o))) .normal ⟨Zs8 a1 a2 ((dB y.1)::q6 ((dP e72 a0.fCx)::(dI (a0.fCx.length : Int))::(dI y.2)::q40 (q20 []))), [(b38_0 a0)]⟩) → Lp (X38 n) [1, 2, 3, 6, 7, 14, 15, 16] 1 (cL (cL (cR (cL (cR (cR C38)))))) nx20 ⟨Zs8 a1 a2 ((dB v16)::q6 ((dP e72 a0.fCx)::(dI (a0.fCx.length : Int))::(dI v17)::q40 (q20 []))), [(b38_0 a0)]⟩ (blkQ (X38 n) 0 [1, 2, 3, 6, 7] 1 (seqQ (X38 n) (cR (cR (cR C38))) (fnQ (X38 n).E.T (resOf Proofs.Try.prog 38) (eB o)))) := by
  intro kx19
  induction kx19 with
  | zero => intro v16 v17  ox18 h; exact (iter_zero h).elim
  | succ kx19 ihx21 =>
   intro v16 v17  ox18 h nx20 hnx24 hrx22 hxx23
   obtain ⟨nx20, rfl⟩ : ∃ q, nx20 = q + 1 := ⟨nx20 - 1, om⟩
   obtain ⟨sx25, h, hsx26⟩ := iter_some h
   have h : f38_B2 m a0 a1 a2 v16 v17 = some sx25 := h
   unfold f38_B2 at h
   refine Lp.succ (Sg 1 (Dn (Wp.sq (Wp.cd h [1, 2, 3, 6, 7, 14, 15, 16] 1 (fun h => ?_) (fun h => ?_)))))
   ·refine Kn (Wp.sq (Wp.bk 1 [1, 2, 3, 6, 7, 14, 15, 16] 1 (Wp.sq (Wp.rg ?_))))
    obtain ⟨v27, ev27, h⟩ := bnd_some h
    refine Ops.on 1 (fun h0 e0 => (ix_r (T := T) h0 56 73 4 .plain e72 a0.fCx v17 v27 ev27 kr kr (fun _ => rfl))) <| Ops.sg 3 4 (Dn (Rg 2 (Ops.hv (fun KQ => ∀ (d30 d31 d32 d33 : D) (v34 v35 : Bool), f38_r1 m v17 v35 = some sx25 → KQ 7 ⟨Zs8 a1 a2 ((dB v34)::q1 ((.ptr 1 0)::q4 ((dP e72 a0.fCx)::(dI (a0.fCx.length : Int))::(dI v17)::(dB (decide (v17 < (a0.fCx.length : Int))))::(.vptr [(vP e48 v27.fLf), (vP e48 v27.fRt), (vB v27.fBg), (vB v27.fEnd)])::(.v (.agg [(vP e48 v27.fLf), (vP e48 v27.fRt), (vB v27.fBg), (vB v27.fEnd)]))::(dB v34)::(dB v34)::d30::d31::d32::d33::(dB v35)::q40 (q10 [])))), [(b38_0 a0), (.cells [(dP e48 v27.fLf), (dP e48 v27.fRt), (dB v27.fBg), (dB v27.fEnd)])]⟩) ?_ fun J38j36 => ?_)))
    ·intro d30 d31 d32 d33 v34 v35 h
     unfold f38_r1 at h
     refine Ops.sg 1 8 (Ops.dn (blkQ.n' (seqQ.n (Rg 2 (Ops.dn (lpQ.m ⟨Zs8 a1 a2 ((dB v35)::q6 ((dP e72 a0.fCx)::(dI (a0.fCx.length : Int))::(dI (w64 (v17 + 1)))::q40 (q20 []))), [(b38_0 a0)]⟩ ?_))))))
     cases h
     exact ihx21 v35 (w64 (v17 + 1))  _ hsx26 _ om hrx22 hxx23
    obtain ⟨v35, ev35, h⟩ := bnd_some h
    refine Ops.hv (fun KQ => ∀ v28 : Bool, (cnd v28 (some true) (bnd (f60 m v27 a1 a2) fun v37 => some v37)) = some v35 → KQ 2 ⟨Zs8 a1 a2 ((dB v28)::q1 ((.ptr 1 0)::q4 ((dP e72 a0.fCx)::(dI (a0.fCx.length : Int))::(dI v17)::(dB (decide (v17 < (a0.fCx.length : Int))))::(.vptr [(vP e48 v27.fLf), (vP e48 v27.fRt), (vB v27.fBg), (vB v27.fEnd)])::(.v (.agg [(vP e48 v27.fLf), (vP e48 v27.fRt), (vB v27.fBg), (vB v27.fEnd)]))::(dB v28)::(dB v28)::q40 (q15 [])))), [(b38_0 a0), (.cells [(dP e48 v27.fLf), (dP e48 v27.fRt), (dB v27.fBg), (dB v27.fEnd)])]⟩) ?_ fun G38g29 => Ops.sx (G38g29 v16 ev35)
    intro v28 ev35
    cases v28
    ·have ev35 := cnd_f ev35
     refine Ops.sg 3 5 ?_
     obtain ⟨v37, ev37, ev35⟩ := bnd_some ev35
     exact Ops.on 6 (fun h0 e0 => (call_ok (E' := E) (h := h0) kr (Args.v (.agg [(vP e48 v27.fLf), (vP e48 v27.fRt), (vB v27.fBg), (vB v27.fEnd)]) (e72 v27) kr (Args.v (vP e48 a1) ((eL e48) a1) kr (Args.v (vI a2) (eI a2) kr Args.nil))) (ok60 m v27 a1 a2 v37 ev37 n om))) <| Ops.sg 1 7 <| Ops.sx (J38j36 ((.v (.agg [(vP e48 v27.fLf), (vP e48 v27.fRt), (vB v27.fBg), (vB v27.fEnd)]))) (dP e48 a1) (dI a2) (dB v37) false v37 (some_sub (fun v35 => f38_r1 m v17 v35 = some sx25) ev35 h))
    ·have ev35 := cnd_t ev35
     exact Ops.sg 5 7 <| Ops.sx (J38j36 U U U U true true (some_sub (fun v35 => f38_r1 m v17 v35 = some sx25) ev35 h))
   ·refine Wp.ex 0 (sqQ.x (seqQ.x ?_))
    cases h
    exact lpQ.x (blkQ.w ⟨Zs8 a1 a2 ((dB v16)::q6 ((dP e72 a0.fCx)::(dI (a0.fCx.length : Int))::(dI v17)::q40 (q20 []))), [(b38_0 a0)]⟩ (hxx23 (v16, v17)  hsx26))
 refine Wp.loop' [1, 2, 3, 6, 7, 14, 15, 16] 1 kr ⟨Zs8 a1 a2 ((dB false)::q6 ((dP e72 a0.fCx)::(dI (a0.fCx.length : Int))::(dI 0)::q40 (q20 []))), [(b38_0 a0)]⟩ kr ?_
 rcases brk_some h with ⟨r40, er40, h⟩ | ⟨y39, ey39, h⟩
 ·refine hLx38 _ false 0  _ er40 n om (fun r er σ hσ => ?_) (fun y  ey => by cases ey)
  cases er
  exact seqQ.r <| fnQ.r' (X38 n) (fun z => (eB z)) h hσ
 ·refine hLx38 _ false 0  _ ey39 n om (fun r er => by cases er) (fun y  ey => ?_)
  cases ey
  refine seqQ.n (Sg 2 ?_)
  obtain ⟨v41, ev41, h⟩ := bnd_some h
  refine Ops.on 3 (fun h0 e0 => (ix_r (T := T) h0 23 49 2 .plain e48 a1 a2 v41 ev41 kr kr (fun _ => rfl))) <| Ops.sg 3 6 (Dn (Sg 5 (Ops.hv (fun KQ => ∀ (d44 : D) (v45 v46 : Bool), f38_r7 m a0 y39 v41 v46 = some o → KQ 7 ⟨Zs8 a1 a2 ((dB y39.1)::q2 ((.ptr 1 0)::q3 ((dP e72 a0.fCx)::(dI (a0.fCx.length : Int))::(dI y39.2)::q11 ((dP e48 a1)::(dI a2)::(.vptr [(vI v41.fLx), (vI v41.fSf)])::(.v (.agg [(vI v41.fLx), (vI v41.fSf)]))::(.v (.agg [(vI v41.fLx), (vI v41.fSf)]))::(.ptr 0 1)::(.v (.agg [(vI a0.fPr.fLx), (vI a0.fPr.fSf)]))::(dB v45)::(dB v45)::d44::(dB v46)::q38 [])))), [(b38_0 a0), (b38_1 v41)]⟩) ?_ fun J38j47 => ?_)))
  ·intro d44 v45 v46 h
   unfold f38_r7 at h
   refine Ops.sg 1 8 (Dn (Sg 7 (Ops.hv (fun KQ => ∀ (d50 d51 d52 d53 : D) (v54 v55 : Bool), f38_r6 m a0 y39 v41 v46 v55 = some o → KQ 12 ⟨Zs4 a1 a2 y39.1 v46 a0.fCx (a0.fCx.length : Int) y39.2 (.vptr [(vI v41.fLx), (vI v41.fSf)]) (.v (.agg [(vI v41.fLx), (vI v41.fSf)])) (.v (.agg [(vI a0.fPr.fLx), (vI a0.fPr.fSf)])) v45 d44 v41.fLx a0.fPr.fLx v54 (d50::d51::d52::d53::(dB v55)::q26 []), [(b38_0 a0), (b38_1 v41)]⟩) ?_ fun J38j56 => ?_)))
   ·intro d50 d51 d52 d53 v54 v55 h
    unfold f38_r6 at h
    refine Ops.sg 1 13 <| Ops.hv (fun KQ => ∀ (d59 d60 : D) (v61 v62 : Bool), f38_r5 m a0 y39 v41 v46 v62 = some o → KQ 16 ⟨Zs4 a1 a2 y39.1 v46 a0.fCx (a0.fCx.length : Int) y39.2 (.vptr [(vI v41.fLx), (vI v41.fSf)]) (.v (.agg [(vI v41.fLx), (vI v41.fSf)])) (.v (.agg [(vI a0.fPr.fLx), (vI a0.fPr.fSf)])) v45 d44 v41.fLx a0.fPr.fLx v54 (d50::d51::d52::d53::(dB v61)::(dB v61)::d59::d60::(dB v62)::q22 []), [(b38_0 a0), (b38_1 v41)]⟩) ?_ fun J38j63 => ?_
    ·intro d59 d60 v61 v62 h
     unfold f38_r5 at h
     refine Ops.sg 1 17 (Dn (Wp.sq (Sg 2 (Dn (Wp.bk 2 [3, 6, 7, 10] 2 (Sg 2 (Dn (Wp.cd h [3, 6, 7, 10] 2 (fun h => ?_) (fun h => ?_)))))))))
     ·exact Sg 2 (Dn (Wp.rt (sqQ.r (blkQ.r (seqQ.r (fnQ.r' (X38 n) (fun z => (eB z)) h (RetOk.mk' (dB v46) kr kr)))))))
     ·refine Sg 2 (Dn (Wp.cd h [3, 6, 7, 10] 2 (fun h => ?_) (fun h => ?_)))
      ·exact Sg 2 (Dn (Wp.rt (sqQ.r (sqQ.r (blkQ.r (seqQ.r (fnQ.r' (X38 n) (fun z => (eB z)) h (RetOk.mk' (dB v62) kr kr))))))))
      ·refine Sg 2 (Dn (Wp.cd h [3, 6, 7, 10] 2 (fun h => ?_) (fun h => ?_)))
       ·refine Sg 2 <| Ops.hv (fun KQ => ∀ (d66 : D) (v67 v68 : Bool), f38_r3 m v68 = some o → KQ 4 ⟨Zs2 a1 a2 y39.1 v67 v62 a0.fCx (a0.fCx.length : Int) y39.2 (.vptr [(vI v41.fLx), (vI v41.fSf)]) (.v (.agg [(vI v41.fLx), (vI v41.fSf)])) (.v (.agg [(vI a0.fPr.fLx), (vI a0.fPr.fSf)])) v45 d44 v41.fLx a0.fPr.fLx v54 d50 d51 d52 d53 v61 d59 d60 a0.fKn (a0.fKn == 1) (a0.fKn == 2) (a0.fKn == 3) ((dB v67)::(dB v67)::d66::(dB v68)::q8 []), [(b38_0 a0), (b38_1 v41)]⟩) ?_ fun J38j69 => ?_
        ·intro d66 v67 v68 h
         unfold f38_r3 at h
         exact Ops.sg 1 5 (Dn (Wp.rt (sqQ.r (sqQ.r (sqQ.r (blkQ.r (seqQ.r (fnQ.r' (X38 n) (fun z => (eB z)) h (RetOk.mk' (dB v68) kr kr)))))))))
        refine Ops.hv (fun KQ => ∀ v64 : Bool, f38_r3 m (v64 && v62) = some o → KQ 2 ⟨Zs2 a1 a2 y39.1 v64 v62 a0.fCx (a0.fCx.length : Int) y39.2 (.vptr [(vI v41.fLx), (vI v41.fSf)]) (.v (.agg [(vI v41.fLx), (vI v41.fSf)])) (.v (.agg [(vI a0.fPr.fLx), (vI a0.fPr.fSf)])) v45 d44 v41.fLx a0.fPr.fLx v54 d50 d51 d52 d53 v61 d59 d60 a0.fKn (a0.fKn == 1) (a0.fKn == 2) (a0.fKn == 3) ((dB v64)::(dB v64)::q10 []), [(b38_0 a0), (b38_1 v41)]⟩) ?_ fun G38g65 => Ops.sx (G38g65 v46 h)
        intro v64 h
        cases v64
        ·exact Ops.sg 2 4 <| Ops.sx (J38j69 U false false h)
        ·exact Ops.sg 2 4 <| Ops.sx (J38j69 (dB v62) true v62 h)
       ·refine Wp.sk (sqQ.n' (sqQ.n' (sqQ.n' (blkQ.n' (seqQ.n (Sg 5 (Ops.hv (fun KQ => ∀ (d72 d73 : D) (v74 v75 : Bool), f38_r4 m v75 = some o → KQ 8 ⟨Zs2 a1 a2 y39.1 v46 v62 a0.fCx (a0.fCx.length : Int) y39.2 (.vptr [(vI v41.fLx), (vI v41.fSf)]) (.v (.agg [(vI v41.fLx), (vI v41.fSf)])) (.v (.agg [(vI a0.fPr.fLx), (vI a0.fPr.fSf)])) v45 d44 v41.fLx a0.fPr.fLx v54 d50 d51 d52 d53 v61 d59 d60 a0.fKn (a0.fKn == 1) (a0.fKn == 2) (a0.fKn == 3) (q4 ((.v (.agg [(vI v41.fLx), (vI v41.fSf)]))::(.ptr 0 1)::(.v (.agg [(vI a0.fPr.fLx), (vI a0.fPr.fSf)]))::(dB v74)::(dB v74)::d72::d73::(dB v75)::[])), [(b38_0 a0), (b38_1 v41)]⟩) ?_ fun J38j76 => ?_)))))))
        ·intro d72 d73 v74 v75 h
         unfold f38_r4 at h
         exact Ops.sg 1 9 (Dn (Wp.rt (fnQ.r' (X38 n) (fun z => (eB z)) h (RetOk.mk' (dB v75) kr kr))))
        refine Ops.hv (fun KQ => ∀ v70 : Bool, f38_r4 m (v70 || (!y39.1)) = some o → KQ 5 ⟨Zs2 a1 a2 y39.1 v46 v62 a0.fCx (a0.fCx.length : Int) y39.2 (.vptr [(vI v41.fLx), (vI v41.fSf)]) (.v (.agg [(vI v41.fLx), (vI v41.fSf)])) (.v (.agg [(vI a0.fPr.fLx), (vI a0.fPr.fSf)])) v45 d44 v41.fLx a0.fPr.fLx v54 d50 d51 d52 d53 v61 d59 d60 a0.fKn (a0.fKn == 1) (a0.fKn == 2) (a0.fKn == 3) (q4 ((.v (.agg [(vI v41.fLx), (vI v41.fSf)]))::(.ptr 0 1)::(.v (.agg [(vI a0.fPr.fLx), (vI a0.fPr.fSf)]))::(dB v70)::(dB v70)::q3 [])), [(b38_0 a0), (b38_1 v41)]⟩) ?_ fun G38g71 => Ops.sx (G38g71 (!((v41.fLx == a0.fPr.fLx) && ((v41.fSf == a0.fPr.fSf) && true))) h)
        intro v70 h
        cases v70
        ·exact Ops.sg 3 8 <| Ops.sx (J38j76 (dB y39.1) (dB (!y39.1)) false (!y39.1) h)
        ·exact Ops.sg 3 8 <| Ops.sx (J38j76 U U true true h)
    refine Ops.hv (fun KQ => ∀ v57 : Bool, f38_r5 m a0 y39 v41 v46 (v57 || (!y39.1)) = some o → KQ 13 ⟨Zs4 a1 a2 y39.1 v46 a0.fCx (a0.fCx.length : Int) y39.2 (.vptr [(vI v41.fLx), (vI v41.fSf)]) (.v (.agg [(vI v41.fLx), (vI v41.fSf)])) (.v (.agg [(vI a0.fPr.fLx), (vI a0.fPr.fSf)])) v45 d44 v41.fLx a0.fPr.fLx v54 (d50::d51::d52::d53::(dB v57)::(dB v57)::q25 []), [(b38_0 a0), (b38_1 v41)]⟩) ?_ fun G38g58 => Ops.sx (G38g58 v55 h)
    intro v57 h
    cases v57
    ·exact Ops.sg 3 16 <| Ops.sx (J38j63 (dB y39.1) (dB (!y39.1)) false (!y39.1) h)
    ·exact Ops.sg 3 16 <| Ops.sx (J38j63 U U true true h)
   refine Ops.hv (fun KQ => ∀ v48 : Bool, f38_r6 m a0 y39 v41 v46 (v48 || ((v41.fLx == a0.fPr.fLx) && ((v41.fSf == a0.fPr.fSf) && true))) = some o → KQ 7 ⟨Zs4 a1 a2 y39.1 v46 a0.fCx (a0.fCx.length : Int) y39.2 (.vptr [(vI v41.fLx), (vI v41.fSf)]) (.v (.agg [(vI v41.fLx), (vI v41.fSf)])) (.v (.agg [(vI a0.fPr.fLx), (vI a0.fPr.fSf)])) v45 d44 v41.fLx a0.fPr.fLx v48 (q31 []), [(b38_0 a0), (b38_1 v41)]⟩) ?_ fun G38g49 => Ops.sx (G38g49 (v41.fLx != a0.fPr.fLx) h)
   intro v48 h
   cases v48
   ·exact Ops.sg 5 12 <| Ops.sx (J38j56 ((.v (.agg [(vI v41.fLx), (vI v41.fSf)]))) (.ptr 0 1) ((.v (.agg [(vI a0.fPr.fLx), (vI a0.fPr.fSf)]))) (dB ((v41.fLx == a0.fPr.fLx) && ((v41.fSf == a0.fPr.fSf) && true))) false ((v41.fLx == a0.fPr.fLx) && ((v41.fSf == a0.fPr.fSf) && true)) h)
   ·exact Ops.sg 5 12 <| Ops.sx (J38j56 U U U U true true h)
  refine Ops.hv (fun KQ => ∀ v42 : Bool, f38_r7 m a0 y39 v41 (v42 || y39.1) = some o → KQ 5 ⟨Zs8 a1 a2 ((dB y39.1)::q2 ((.ptr 1 0)::q3 ((dP e72 a0.fCx)::(dI (a0.fCx.length : Int))::(dI y39.2)::q11 ((dP e48 a1)::(dI a2)::(.vptr [(vI v41.fLx), (vI v41.fSf)])::(.v (.agg [(vI v41.fLx), (vI v41.fSf)]))::(.v (.agg [(vI v41.fLx), (vI v41.fSf)]))::(.ptr 0 1)::(.v (.agg [(vI a0.fPr.fLx), (vI a0.fPr.fSf)]))::(dB v42)::(dB v42)::q40 [])))), [(b38_0 a0), (b38_1 v41)]⟩) ?_ fun G38g43 => Ops.sx (G38g43 (!((v41.fLx == a0.fPr.fLx) && ((v41.fSf == a0.fPr.fSf) && true))) h)
  intro v42 h
  cases v42
  ·exact Ops.sg 2 7 <| Ops.sx (J38j47 (dB y39.1) false y39.1 h)
  ·exact Ops.sg 2 7 <| Ops.sx (J38j47 U true true h)
def f19_B1 (m : Nat) (a1 : (List S48)) (v40 : Int) (v50 : S57) (v54 : Int) : Option (Stp (Bool × Int × S29) (Int)) :=
 cnd (decide (v54 < (a1.length : Int)))
 (bnd (f38 m v50 a1 v54) fun v64 =>
 cnd (!v64)
 (some (.ret ((false, v40, (⟨0, 0⟩ : S29)))))
 (some (.nxt (w64 (v54 + 1)))))
 (some (.brk v54))
def f19_B2 (m : Nat) (a0 : (List S57)) (a1 : (List S48)) (v40 : Int) : Option (Stp (Bool × Int × S29) (Int)) :=
 cnd (decide (v40 < (a0.length : Int)))
 (bnd (idx a0 v40) fun v50 =>
 brk (iter (fun (y : Int) => f19_B1 m a1 v40 v50 y) m 0) (fun r => some (.ret r)) fun y66 =>
 some (.nxt (w64 (v40 + 1))))
 (some (.brk v40))
def f19 (m : Nat) (a0 : (List S57)) (a1 : (List S48)) : Option (Bool × Int × S29) :=
 bnd (f24 m a0) fun v1 =>
 cnd (!((v1.fCo == 0) && ((v1.fIx == 0) && true)))
 (some ((false, 0, v1)))
 (bnd (f25 m a1 30 false) fun v2 =>
 cnd (!((v2.fCo == 0) && ((v2.fIx == 0) && true)))
 (some ((false, 0, v2)))
 (brk (iter (fun (y : Int) => f19_B2 m a0 a1 y) m 0) some fun y69 =>
 some ((true, (-1), (⟨0, 0⟩ : S29)))))
abbrev X19 (n : Nat) : Cx := cxOf Proofs.Try.prog E 19 n
def C19 : Code := bodyOf Proofs.Try.prog 19
abbrev p19_0 : Code := cR (cR (cR (cR C19)))
abbrev p19_1 : Code := cL (cL (cR (cL (cR (cR (cR C19))))))
abbrev p19_2 : Code := cR (cR (cR p19_1))
abbrev b19_0 : AObj := .cells [(dI 0), (dI 0)]
abbrev b19_1 (w0 : S29) : AObj := .cells [(dI w0.fCo), (dI w0.fIx)]
abbrev b19_2 (w0 : S57) : AObj := .cells [(dI w0.fKn), (dI w0.fPr.fLx), (dI w0.fPr.fSf), (dP e72 w0.fCx)]
abbrev k19_0 : List Nat := [1, 4, 5, 6, 24, 25, 26]
abbrev k19_1 : List Nat := [1, 4, 5, 6, 9, 10, 24, 25, 26, 32, 33]
theorem ok19 (m : Nat) (a0 : (List S57)) (a1 : (List S48)) (o : (Bool × Int × S29)) (h : f19 m a0 a1 = some o) (n : Nat) (hn : m + 5 ≤ n) : Fn Proofs.Try.prog E n 19 [.v ((eL e57) a0), .v ((eL e48) a1)] (.tuple [eB o.1, eI o.2.1, e29 o.2.2]) := by
 obtain ⟨n, rfl⟩ : ∃ q, n = q + 1 := ⟨n - 1, om⟩
 unfold f19 at h
 refine Fn.of kr kr kr ⟨(dP e57 a0)::(dP e48 a1)::u40 (u4 []), []⟩ kr (Sg 3 (Dn (Wp.sq (Sg 1 ?_))))
 obtain ⟨v1, ev1, h⟩ := bnd_some h
 refine Ops.on 2 (fun h0 e0 => (call_ok (E' := E) (h := h0) kr (Args.v (vP e57 a0) ((eL e57) a0) kr Args.nil) (ok24 m a0 v1 ev1 n om))) <| Ops.sg 2 4 (Dn (Sg 3 (Dn (Wp.cd h [0, 1, 4, 5, 6] 2 (fun h => ?_) (fun h => ?_)))))
 ·exact Sg 4 (Dn (Wp.rt (sqQ.r (seqQ.r (fnQ.r' (X19 n) (fun z => (.tuple [eB z.1, eI z.2.1, e29 z.2.2])) h (RetOk.mk' (.v (.tuple [(vB false), (vI 0), (.agg [(vI v1.fCo), (vI v1.fIx)])])) kr kr))))))
 ·refine Kn (Wp.sq (Sg 1 ?_))
  obtain ⟨v2, ev2, h⟩ := bnd_some h
  refine Ops.on 2 (fun h0 e0 => (call_ok (E' := E) (h := h0) kr (Args.v (vP e48 a1) ((eL e48) a1) kr (Args.v (vI 30) (eI 30) kr (Args.v (vB false) (eB false) kr Args.nil))) (ok25 m a1 30 false v2 ev2 n om))) <| Ops.sg 2 4 (Dn (Sg 3 (Dn (Wp.cd h [0, 1, 4, 5, 6] 3 (fun h => ?_) (fun h => ?_)))))
  ·exact Sg 4 (Dn (Wp.rt (sqQ.r (seqQ.r (fnQ.r' (X19 n) (fun z => (.tuple [eB z.1, eI z.2.1, e29 z.2.2])) h (RetOk.mk' (.v (.tuple [(vB false), (vI 0), (.agg [(vI v2.fCo), (vI v2.fIx)])])) kr kr))))))
  ·refine Kn (Wp.sq (Sg 1 (Ops.on 2 (fun h0 e0 => (len_r (T := T) h0 22 58 .plain e57 a0 kr)) (Ops.sg 1 3 (Dn (Wp.bk 0 [4, 5, 6] 3 ?_))))))
   have hLx68 : ∀ (kx42 : Nat) (v40 : Int)  (ox41 : (Bool × Int × S29) ⊕ (Int)), iter (fun (y : Int) => f19_B2 m a0 a1 y) kx42 v40 = some ox41 → ∀ nx43, kx42 ≤ nx43 → (∀ r, ox41 = .inl r → ∀ σ, RetOk (X19 n) (resOf Proofs.Try.prog 19) (.tuple [eB r.1, eI r.2.1, e29 r.2.2]) σ → (seqQ (X19 n) p19_0 (fnQ (X19 n).E.T (resOf Proofs.Try.prog 19) (.tuple [eB o.1, eI o.2.1, e29 o.2.2]))) .ret σ) → (∀ (y : Int) , ox41 = .inr y → (seqQ (X19 n) p19_0 (fnQ (X19 n).E.T (resOf Proofs.Try.prog 19) (.tuple [eB o.1, eI o.2.1, e29 o.2.2]))) .normal ⟨Zs15 a1 a0 (a0.length : Int) ((dI y)::q19 []), [b19_0, (b19_1 v1), (b19_1 v2)]⟩) → Lp (X19 n) k19_0 3 p19_1 nx43 ⟨Zs15 a1 a0 (a0.length : Int) ((dI v40)::q19 []), [b19_0, (b19_1 v1), (b19_1 v2)]⟩ (blkQ (X19 n) 0 [4, 5, 6] 3 (seqQ (X19 n) p19_0 (fnQ (X19 n).E.T (resOf Proofs.Try.prog 19) (.tuple [eB o.1, eI o.2.1, e29 o.2.2])))) := by
    intro kx42
    induction kx42 with
    | zero => intro v40  ox41 h; exact (iter_zero h).elim
    | succ kx42 ihx44 =>
     intro v40  ox41 h nx43 hnx47 hrx45 hxx46
     obtain ⟨nx43, rfl⟩ : ∃ q, nx43 = q + 1 := ⟨nx43 - 1, om⟩
     obtain ⟨sx48, h, hsx49⟩ := iter_some h
     have h : f19_B2 m a0 a1 v40 = some sx48 := h
     unfold f19_B2 at h
     refine Lp.succ (Sg 1 (Dn (Wp.sq (Wp.cd h k19_0 3 (fun h => ?_) (fun h => ?_)))))
     ·refine Kn (Wp.sq (Wp.bk 1 k19_0 3 (Sg 1 ?_)))
      obtain ⟨v50, ev50, h⟩ := bnd_some h
      refine Ops.on 2 (fun h0 e0 => (ix_r (T := T) h0 22 58 4 .plain e57 a0 v40 v50 ev50 kr kr (fun _ => rfl))) <| Ops.sg 4 6 (Dn (Sg 1 (Ops.on 2 (fun h0 e0 => (len_r (T := T) h0 23 49 .plain e48 a1 kr)) (Ops.sg 1 3 (Dn (Wp.bk 2 k19_0 4 ?_))))))
      have hLx65 : ∀ (kx56 : Nat) (v54 : Int)  (ox55 : (Bool × Int × S29) ⊕ (Int)), iter (fun (y : Int) => f19_B1 m a1 v40 v50 y) kx56 v54 = some ox55 → ∀ nx57, kx56 ≤ nx57 → (∀ r, ox55 = .inl r → ∀ σ, RetOk (X19 n) (resOf Proofs.Try.prog 19) (.tuple [eB r.1, eI r.2.1, e29 r.2.2]) σ → (blkQ (X19 n) 1 k19_0 3 (seqQ (X19 n) p19_2 (lpQ (X19 n) k19_0 3 p19_1 nx43 (blkQ (X19 n) 0 [4, 5, 6] 3 (seqQ (X19 n) p19_0 (fnQ (X19 n).E.T (resOf Proofs.Try.prog 19) (.tuple [eB o.1, eI o.2.1, e29 o.2.2]))))))) .ret σ) → (∀ (y : Int) , ox55 = .inr y → (blkQ (X19 n) 1 k19_0 3 (seqQ (X19 n) p19_2 (lpQ (X19 n) k19_0 3 p19_1 nx43 (blkQ (X19 n) 0 [4, 5, 6] 3 (seqQ (X19 n) p19_0 (fnQ (X19 n).E.T (resOf Proofs.Try.prog 19) (.tuple [eB o.1, eI o.2.1, e29 o.2.2]))))))) .normal ⟨Zs10 a1 v40 a0 (a0.length : Int) (a1.length : Int) ((dI y)::q12 []), [b19_0, (b19_1 v1), (b19_1 v2), (b19_2 v50)]⟩) → Lp (X19 n) k19_1 4 (cL (cL (cR (cR (cL (cL (cR (cR p19_1)))))))) nx57 ⟨Zs10 a1 v40 a0 (a0.length : Int) (a1.length : Int) ((dI v54)::q12 []), [b19_0, (b19_1 v1), (b19_1 v2), (b19_2 v50)]⟩ (blkQ (X19 n) 2 k19_0 4 (blkQ (X19 n) 1 k19_0 3 (seqQ (X19 n) p19_2 (lpQ (X19 n) k19_0 3 p19_1 nx43 (blkQ (X19 n) 0 [4, 5, 6] 3 (seqQ (X19 n) p19_0 (fnQ (X19 n).E.T (resOf Proofs.Try.prog 19) (.tuple [eB o.1, eI o.2.1, e29 o.2.2])))))))) := by
       intro kx56
       induction kx56 with
       | zero => intro v54  ox55 h; exact (iter_zero h).elim
       | succ kx56 ihx58 =>
        intro v54  ox55 h nx57 hnx61 hrx59 hxx60
        obtain ⟨nx57, rfl⟩ : ∃ q, nx57 = q + 1 := ⟨nx57 - 1, om⟩
        obtain ⟨sx62, h, hsx63⟩ := iter_some h
        have h : f19_B1 m a1 v40 v50 v54 = some sx62 := h
        unfold f19_B1 at h
        refine Lp.succ (Sg 1 (Dn (Wp.sq (Wp.cd h k19_1 4 (fun h => ?_) (fun h => ?_)))))
        ·refine Kn (Wp.sq (Wp.bk 3 k19_1 4 (Sg 2 (Dn (Sg 3 ?_)))))
         obtain ⟨v64, ev64, h⟩ := bnd_some h
         refine Ops.on 4 (fun h0 e0 => (call_ok (E' := E) (h := h0) kr (Args.v (.agg [(vI v50.fKn), (vI v50.fPr.fLx), (vI v50.fPr.fSf), (vP e72 v50.fCx)]) (e57 v50) kr (Args.v (vP e48 a1) ((eL e48) a1) kr (Args.v (vI v54) (eI v54) kr Args.nil))) (ok38 m v50 a1 v54 v64 ev64 n om))) <| Ops.sg 1 5 (Dn (Wp.cd h k19_1 4 (fun h => ?_) (fun h => ?_)))
         ·refine Sg 5 (Dn (Wp.rt (sqQ.r (blkQ.r (seqQ.r ?_)))))
          cases h
          exact lpQ.r (blkQ.r (hrx59 _ hsx63 _ (RetOk.forget k19_1 kr (RetOk.mk' (.v (.tuple [(vB false), (vI v40), (.agg [(vI 0), (vI 0)])])) kr kr))))
         ·refine Wp.sk (sqQ.n' (blkQ.n' (seqQ.n (Rg 2 (Ops.dn (lpQ.m ⟨Zs10 a1 v40 a0 (a0.length : Int) (a1.length : Int) ((dI (w64 (v54 + 1)))::q12 []), [b19_0, (b19_1 v1), (b19_1 v2), (b19_2 v50)]⟩ ?_))))))
          cases h
          exact ihx58 (w64 (v54 + 1))  _ hsx63 _ om hrx59 hxx60
        ·refine Wp.ex 2 (sqQ.x (seqQ.x ?_))
         cases h
         exact lpQ.x (blkQ.w ⟨Zs10 a1 v40 a0 (a0.length : Int) (a1.length : Int) ((dI v54)::q12 []), [b19_0, (b19_1 v1), (b19_1 v2), (b19_2 v50)]⟩ (hxx60 v54  hsx63))
      refine Wp.loop' k19_1 4 kr ⟨Zs10 a1 v40 a0 (a0.length : Int) (a1.length : Int) ((dI 0)::q12 []), [b19_0, (b19_1 v1), (b19_1 v2), (b19_2 v50)]⟩ kr ?_
      rcases brk_some h with ⟨r67, er67, h⟩ | ⟨y66, ey66, h⟩
      ·refine hLx65 _ 0  _ er67 n om (fun r er σ hσ => ?_) (fun y  ey => by cases ey)
       cases er
       refine blkQ.r (seqQ.r (lpQ.r ?_))
       cases h
       exact blkQ.r <| hrx45 _ hsx49 _ (RetOk.forget k19_0 kr hσ)
      ·refine hLx65 _ 0  _ ey66 n om (fun r er => by cases er) (fun y  ey => ?_)
       cases ey
       refine blkQ.n' (seqQ.n (Rg 2 (Ops.dn (lpQ.m ⟨Zs15 a1 a0 (a0.length : Int) ((dI (w64 (v40 + 1)))::q19 []), [b19_0, (b19_1 v1), (b19_1 v2)]⟩ ?_))))
       cases h
       exact ihx44 (w64 (v40 + 1))  _ hsx49 _ om hrx45 hxx46
     ·refine Wp.ex 0 (sqQ.x (seqQ.x ?_))
      cases h
      exact lpQ.x (blkQ.w ⟨Zs15 a1 a0 (a0.length : Int) ((dI v40)::q19 []), [b19_0, (b19_1 v1), (b19_1 v2)]⟩ (hxx46 v40  hsx49))
   refine Wp.loop' k19_0 3 kr ⟨Zs15 a1 a0 (a0.length : Int) ((dI 0)::q19 []), [b19_0, (b19_1 v1), (b19_1 v2)]⟩ kr ?_
   rcases brk_some h with ⟨r70, er70, h⟩ | ⟨y69, ey69, h⟩
   ·refine hLx68 _ 0  _ er70 n om (fun r er σ hσ => ?_) (fun y  ey => by cases ey)
    cases er
    exact seqQ.r <| fnQ.r' (X19 n) (fun z => (.tuple [eB z.1, eI z.2.1, e29 z.2.2])) h hσ
   ·refine hLx68 _ 0  _ ey69 n om (fun r er => by cases er) (fun y  ey => ?_)
    cases ey
    exact seqQ.n (Sg 4 (Dn (Wp.rt (fnQ.r' (X19 n) (fun z => (.tuple [eB z.1, eI z.2.1, e29 z.2.2])) h (RetOk.mk' (.v (.tuple [(vB true), (vI (-1)), (.agg [(vI 0), (vI 0)])])) kr kr)))))
def f13_j1 (m : Nat) (v282 : Int) (v292 : (List Bool)) : Option (Stp Bool ((List Bool) × Int)) :=
 some (.nxt (v292, w64 (v282 + 1)))
def f13_j2 (m : Nat) (v282 : Int) (v316 : (List Bool)) : Option (Stp Bool ((List Bool) × Int)) :=
 f13_j1 m v282 v316
def f13_r3 (m : Nat) (v281 : (List Bool)) (v282 : Int) (v294 : S52) (v314 : Bool) : Option (Stp Bool ((List Bool) × Int)) :=
 cnd v314
 (bnd (idx v281 v294.fTo) fun v318 =>
 bnd (upd v281 v294.fTo true) fun v319 =>
 f13_j2 m v282 v319)
 (f13_j2 m v282 v281)
def f13_r4 (m : Nat) (v221 : S48) (v281 : (List Bool)) (v282 : Int) (v294 : S52) (v304 : Bool) : Option (Stp Bool ((List Bool) × Int)) :=
 f13_r3 m v281 v282 v294 (v304 && (v294.fOut == v221.fSf))
def f13_B5 (m : Nat) (a0 : S27) (v210 : (List Bool)) (v221 : S48) (v281 : (List Bool)) (v282 : Int) : Option (Stp Bool ((List Bool) × Int)) :=
 cnd (decide (v282 < (a0.fAs.length : Int)))
 (bnd (idx a0.fAs v282) fun v294 =>
 bnd (idx v210 v294.fFr) fun v295 =>
 f13_r4 m v221 v281 v282 v294 (v295 && (v294.fIn == v221.fLx)))
 (some (.brk (v281, v282)))
def f13_B6 (m : Nat) (a0 : S27) (a1 : (List S48)) (v210 : (List Bool)) (v211 : Int) : Option (Stp Bool ((List Bool) × Int)) :=
 cnd (decide (v211 < (a1.length : Int)))
 (bnd (idx a1 v211) fun v221 =>
 bnd (mk 1 a0.fSt false) fun v222 =>
 brk (iter (fun (y : (List Bool) × Int) => f13_B5 m a0 v210 v221 y.1 y.2) m (v222, 0)) (fun r => some (.ret r)) fun y321 =>
 some (.nxt (y321.1, w64 (v211 + 1))))
 (some (.brk (v210, v211)))
def f13_B7 (m : Nat) (a0 : S27) (y324 : (List Bool) × Int) (v331 : Int) : Option (Stp Bool (Int)) :=
 cnd (decide (v331 < (a0.fFn.length : Int)))
 (bnd (idx a0.fFn v331) fun v341 =>
 bnd (idx y324.1 v341.fSe) fun v342 =>
 cnd v342
 (some (.ret true))
 (some (.nxt (w64 (v331 + 1)))))
 (some (.brk v331))
def f13_j8 (m : Nat) (a0 : S27) (a1 : (List S48)) (v2 : (List Bool)) : Option Bool :=
 brk (iter (fun (y : (List Bool) × Int) => f13_B6 m a0 a1 y.1 y.2) m (v2, 0)) some fun y324 =>
 brk (iter (fun (y : Int) => f13_B7 m a0 y324 y) m 0) some fun y344 =>
 some false
def f13 (m : Nat) (a0 : S27) (a1 : (List S48)) : Option Bool :=
 bnd (mk 1 a0.fSt false) fun v1 =>
 cnd (decide (a0.fSt > 0))
 (bnd (idx v1 0) fun v346 =>
 bnd (upd v1 0 true) fun v347 =>
 f13_j8 m a0 a1 v347)
 (f13_j8 m a0 a1 v1)
noncomputable abbrev X13 (n : Nat) : Cx := cxOf Proofs.Try.prog E 13 n
noncomputable def C13 : Code := bodyOf Proofs.Try.prog 13
noncomputable abbrev p13_0 : Code := cR (cR (cR (cR C13)))
noncomputable abbrev p13_1 : Code := cL (cL (cR (cL (cR (cR (cR C13))))))
noncomputable abbrev p13_2 : Code := cR (cR (cR p13_1))
noncomputable abbrev p13_3 : Code := cR (cR (cR (cL (cL (cR (cR p13_1))))))
noncomputable abbrev p13_4 : Code := cL (cL (cR (cL (cR (cR (cL (cL (cR (cR p13_1)))))))))
noncomputable abbrev p13_5 : Code := cR (cR (cR p13_4))
abbrev b13_0 (w0 : S27) : AObj := .cells [(dI w0.fSt), (dP e52 w0.fAs), (dP e54 w0.fFn)]
abbrev b13_1 (w0 : S48) : AObj := .cells [(dI w0.fLx), (dI w0.fSf)]
abbrev b13_2 (w0 : S52) : AObj := .cells [(dI w0.fFr), (dI w0.fTo), (dI w0.fIn), (dI w0.fOut), (dI w0.fWt)]
abbrev k13_0 : List Nat := [2, 4, 5, 21, 22, 23]
abbrev k13_1 : List Nat := [2, 4, 5, 7, 8, 21, 22, 23, 31, 32, 33]
theorem ok13 (m : Nat) (a0 : S27) (a1 : (List S48)) (o : Bool) (h : f13 m a0 a1 = some o) (n : Nat) (hn : m + 1 ≤ n) : Fn Proofs.Try.prog E n 13 [.v (e27 a0), .v ((eL e48) a1)] (eB o) := by
 obtain ⟨n, rfl⟩ : ∃ q, n = q + 1 := ⟨n - 1, om⟩
 unfold f13 at h
 refine Fn.of kr kr kr ⟨(.v (.agg [(vI a0.fSt), (vP e52 a0.fAs), (vP e54 a0.fFn)]))::(dP e48 a1)::u40 (u34 []), []⟩ kr (Sg 2 (Dn (Sg 2 ?_)))
 obtain ⟨v1, ev1, h⟩ := bnd_some h
 refine Ops.on 3 (fun h0 e0 => (pil_mk (T := T) h0 66 4 ti4 eB a0.fSt false v1 ev1 kr kr kr kr)) <| Ops.sg 1 4 (Dn (Wp.sq (Sg 3 (Dn ?_))))
 have J13j3 : ∀ (v2 : (List Bool)) , f13_j8 m a0 a1 v2 = some o → (seqQ (X13 n) (cR (cR (cR C13))) (fnQ (X13 n).E.T (resOf Proofs.Try.prog 13) (eB o))) .normal ⟨Zs23 a1 v2 [], [(b13_0 a0), .dead, (.row 1 (List.map eB v2)), .dead]⟩ := by
  intro v2  h
  unfold f13_j8 at h
  refine seqQ.n (Wp.sq (Sg 1 (Ops.on 2 (fun h0 e0 => (len_r (T := T) h0 23 49 .plain e48 a1 kr)) (Ops.sg 1 3 (Dn (Wp.bk 0 [2, 4, 5] 4 ?_))))))
  have hLx323 : ∀ (kx213 : Nat) (v210 : (List Bool)) (v211 : Int)  (ox212 : Bool ⊕ ((List Bool) × Int)), iter (fun (y : (List Bool) × Int) => f13_B6 m a0 a1 y.1 y.2) kx213 (v210, v211) = some ox212 → ∀ nx214, kx213 ≤ nx214 → (∀ r, ox212 = .inl r → ∀ σ, RetOk (X13 n) (resOf Proofs.Try.prog 13) (eB r) σ → (seqQ (X13 n) p13_0 (fnQ (X13 n).E.T (resOf Proofs.Try.prog 13) (eB o))) .ret σ) → (∀ (y : (List Bool) × Int) , ox212 = .inr y → (seqQ (X13 n) p13_0 (fnQ (X13 n).E.T (resOf Proofs.Try.prog 13) (eB o))) .normal ⟨Zs9 ((pilD 4 (List.map eB y.1))::q40 (q30 [])), [(b13_0 a0), .dead, .dead, .dead, (.row 1 (List.map eB y.1)), .dead]⟩) → Lp (X13 n) k13_0 4 p13_1 nx214 ⟨Zs9 ((pilD 4 (List.map eB v210))::q15 ((dP e48 a1)::(dI (a1.length : Int))::(dI v211)::q40 (q12 []))), [(b13_0 a0), .dead, .dead, .dead, (.row 1 (List.map eB v210)), .dead]⟩ (blkQ (X13 n) 0 [2, 4, 5] 4 (seqQ (X13 n) p13_0 (fnQ (X13 n).E.T (resOf Proofs.Try.prog 13) (eB o)))) := by
   intro kx213
   induction kx213 with
   | zero => intro v210 v211  ox212 h; exact (iter_zero h).elim
   | succ kx213 ihx215 =>
    intro v210 v211  ox212 h nx214 hnx218 hrx216 hxx217
    obtain ⟨nx214, rfl⟩ : ∃ q, nx214 = q + 1 := ⟨nx214 - 1, om⟩
    obtain ⟨sx219, h, hsx220⟩ := iter_some h
    have h : f13_B6 m a0 a1 v210 v211 = some sx219 := h
    unfold f13_B6 at h
    refine Lp.succ (Sg 1 (Dn (Wp.sq (Wp.cd h k13_0 6 (fun h => ?_) (fun h => ?_)))))
    ·refine Kn (Wp.sq (Wp.bk 1 k13_0 8 (Wp.sq (Wp.rg ?_))))
     obtain ⟨v221, ev221, h⟩ := bnd_some h
     refine Ops.on 1 (fun h0 e0 => (ix_r (T := T) h0 23 49 2 .plain e48 a1 v211 v221 ev221 kr kr (fun _ => rfl))) <| Ops.sg 3 4 (Dn (Sg 2 ?_))
     obtain ⟨v222, ev222, h⟩ := bnd_some h
     refine Ops.on 3 (fun h0 e0 => (pil_mk (T := T) h0 66 4 ti4 eB a0.fSt false v222 ev222 kr kr kr kr)) <| Ops.sg 1 4 (Dn (Wp.sq (Sg 2 (Ops.on 3 (fun h0 e0 => (len_r (T := T) h0 25 53 .plain e52 a0.fAs kr)) (Ops.sg 1 4 (Dn (Wp.bk 2 [2, 4, 8, 21, 22, 23] 10 ?_)))))))
     have hLx320 : ∀ (kx284 : Nat) (v281 : (List Bool)) (v282 : Int)  (ox283 : Bool ⊕ ((List Bool) × Int)), iter (fun (y : (List Bool) × Int) => f13_B5 m a0 v210 v221 y.1 y.2) kx284 (v281, v282) = some ox283 → ∀ nx285, kx284 ≤ nx285 → (∀ r, ox283 = .inl r → ∀ σ, RetOk (X13 n) (resOf Proofs.Try.prog 13) (eB r) σ → (seqQ (X13 n) p13_3 (blkQ (X13 n) 1 k13_0 8 (seqQ (X13 n) p13_2 (lpQ (X13 n) k13_0 4 p13_1 nx214 (blkQ (X13 n) 0 [2, 4, 5] 4 (seqQ (X13 n) p13_0 (fnQ (X13 n).E.T (resOf Proofs.Try.prog 13) (eB o)))))))) .ret σ) → (∀ (y : (List Bool) × Int) , ox283 = .inr y → (seqQ (X13 n) p13_3 (blkQ (X13 n) 1 k13_0 8 (seqQ (X13 n) p13_2 (lpQ (X13 n) k13_0 4 p13_1 nx214 (blkQ (X13 n) 0 [2, 4, 5] 4 (seqQ (X13 n) p13_0 (fnQ (X13 n).E.T (resOf Proofs.Try.prog 13) (eB o)))))))) .normal ⟨Zs9 (q3 ((pilD 11 (List.map eB y.1))::q12 ((dP e48 a1)::(dI (a1.length : Int))::(dI v211)::q40 (q12 [])))), [(b13_0 a0), .dead, .dead, .dead, .dead, .dead, .dead, .dead, (b13_1 v221), .dead, (.row 1 (List.map eB v210)), (.row 1 (List.map eB y.1))]⟩) → Lp (X13 n) k13_1 10 p13_4 nx285 ⟨Zs9 ((pilD 10 (List.map eB v210))::q1 ((.ptr 8 0)::(pilD 11 (List.map eB v281))::q12 ((dP e48 a1)::(dI (a1.length : Int))::(dI v211)::q7 ((dP e52 a0.fAs)::(dI (a0.fAs.length : Int))::(dI v282)::q40 (q2 []))))), [(b13_0 a0), .dead, .dead, .dead, .dead, .dead, .dead, .dead, (b13_1 v221), .dead, (.row 1 (List.map eB v210)), (.row 1 (List.map eB v281))]⟩ (blkQ (X13 n) 2 [2, 4, 8, 21, 22, 23] 10 (seqQ (X13 n) p13_3 (blkQ (X13 n) 1 k13_0 8 (seqQ (X13 n) p13_2 (lpQ (X13 n) k13_0 4 p13_1 nx214 (blkQ (X13 n) 0 [2, 4, 5] 4 (seqQ (X13 n) p13_0 (fnQ (X13 n).E.T (resOf Proofs.Try.prog 13) (eB o))))))))) := by
      intro kx284
      induction kx284 with
      | zero => intro v281 v282  ox283 h; exact (iter_zero h).elim
      | succ kx284 ihx286 =>
       intro v281 v282  ox283 h nx285 hnx289 hrx287 hxx288
       obtain ⟨nx285, rfl⟩ : ∃ q, nx285 = q + 1 := ⟨nx285 - 1, om⟩
       obtain ⟨sx290, h, hsx291⟩ := iter_some h
       have h : f13_B5 m a0 v210 v221 v281 v282 = some sx290 := h
       unfold f13_B5 at h
       refine Lp.succ (Sg 1 (Dn (Wp.sq (Wp.cd h k13_1 12 (fun h => ?_) (fun h => ?_)))))
       ·refine Kn (Wp.sq ?_)
        have J13j293 : ∀ (v292 : (List Bool)) , f13_j1 m v282 v292 = some sx290 → (seqQ (X13 n) p13_5 (lpQ (X13 n) k13_1 10 p13_4 nx285 (blkQ (X13 n) 2 [2, 4, 8, 21, 22, 23] 10 (seqQ (X13 n) p13_3 (blkQ (X13 n) 1 k13_0 8 (seqQ (X13 n) p13_2 (lpQ (X13 n) k13_0 4 p13_1 nx214 (blkQ (X13 n) 0 [2, 4, 5] 4 (seqQ (X13 n) p13_0 (fnQ (X13 n).E.T (resOf Proofs.Try.prog 13) (eB o))))))))))) .normal ⟨Zs9 ((pilD 14 (List.map eB v210))::q1 ((.ptr 8 0)::(pilD 15 (List.map eB v292))::q12 ((dP e48 a1)::(dI (a1.length : Int))::(dI v211)::q7 ((dP e52 a0.fAs)::(dI (a0.fAs.length : Int))::(dI v282)::q40 (q2 []))))), [(b13_0 a0), .dead, .dead, .dead, .dead, .dead, .dead, .dead, (b13_1 v221), .dead, .dead, .dead, .dead, .dead, (.row 1 (List.map eB v210)), (.row 1 (List.map eB v292))]⟩ := by
         intro v292  h
         unfold f13_j1 at h
         refine seqQ.n (Rg 2 (Ops.dn (lpQ.m ⟨Zs9 ((pilD 10 (List.map eB v210))::q1 ((.ptr 8 0)::(pilD 11 (List.map eB v292))::q12 ((dP e48 a1)::(dI (a1.length : Int))::(dI v211)::q7 ((dP e52 a0.fAs)::(dI (a0.fAs.length : Int))::(dI (w64 (v282 + 1)))::q40 (q2 []))))), [(b13_0 a0), .dead, .dead, .dead, .dead, .dead, .dead, .dead, (b13_1 v221), .dead, (.row 1 (List.map eB v210)), (.row 1 (List.map eB v292))]⟩ ?_)))
         cases h
         exact ihx286 v292 (w64 (v282 + 1))  _ hsx291 _ om hrx287 hxx288
        refine Wp.bk 3 k13_1 14 (Wp.sq (Wp.rg ?_))
        obtain ⟨v294, ev294, h⟩ := bnd_some h
        refine Ops.on 1 (fun h0 e0 => (ix_r (T := T) h0 25 53 5 .plain e52 a0.fAs v282 v294 ev294 kr kr (fun _ => rfl))) <| Ops.sg 3 4 (Dn (Sg 3 ?_))
        obtain ⟨v295, ev295, h⟩ := bnd_some h
        refine Ops.on 4 (fun h0 e0 => (pil_ix (T := T) h0 66 4 1 12 eB v210 v294.fFr v295 ev295 kr kr (hq_of e0 kr))) <| Ops.on 5 (fun h0 e0 => (pil_ld (i := ti4) h0 1 12 0 eB v210 v294.fFr v295 (vB v295) ev295 (hq_of e0 kr) kr)) <| Ops.sg 1 6 <| Ops.hv (fun KQ => ∀ (d298 d299 d300 d301 d302 : D) (v303 v304 : Bool), f13_r4 m v221 v281 v282 v294 v304 = some sx290 → KQ 12 ⟨Zs6 v210 v281 a1 (a1.length : Int) v211 a0.fAs (a0.fAs.length : Int) v282 (.vptr [(vI v294.fFr), (vI v294.fTo), (vI v294.fIn), (vI v294.fOut), (vI v294.fWt)]) (.v (.agg [(vI v294.fFr), (vI v294.fTo), (vI v294.fIn), (vI v294.fOut), (vI v294.fWt)])) v294.fFr (.eptr 12 (Int.toNat v294.fFr) 0) v303 (d298::d299::d300::d301::d302::(dB v304)::q27 []), [(b13_0 a0), .dead, .dead, .dead, .dead, .dead, .dead, .dead, (b13_1 v221), .dead, .dead, .dead, (.row 1 (List.map eB v210)), (.row 1 (List.map eB v281)), (b13_2 v294)]⟩) ?_ fun J13j305 => ?_
        ·intro d298 d299 d300 d301 d302 v303 v304 h
         unfold f13_r4 at h
         refine Ops.sg 1 13 <| Ops.hv (fun KQ => ∀ (d308 d309 d310 d311 d312 : D) (v313 v314 : Bool), f13_r3 m v281 v282 v294 v314 = some sx290 → KQ 19 ⟨Zs6 v210 v281 a1 (a1.length : Int) v211 a0.fAs (a0.fAs.length : Int) v282 (.vptr [(vI v294.fFr), (vI v294.fTo), (vI v294.fIn), (vI v294.fOut), (vI v294.fWt)]) (.v (.agg [(vI v294.fFr), (vI v294.fTo), (vI v294.fIn), (vI v294.fOut), (vI v294.fWt)])) v294.fFr (.eptr 12 (Int.toNat v294.fFr) 0) v303 (d298::d299::d300::d301::d302::(dB v313)::(dB v313)::d308::d309::d310::d311::d312::(dB v314)::q20 []), [(b13_0 a0), .dead, .dead, .dead, .dead, .dead, .dead, .dead, (b13_1 v221), .dead, .dead, .dead, (.row 1 (List.map eB v210)), (.row 1 (List.map eB v281)), (b13_2 v294)]⟩) ?_ fun J13j315 => ?_
         ·intro d308 d309 d310 d311 d312 v313 v314 h
          unfold f13_r3 at h
          refine Dn ?_
          have J13j317 : ∀ (v316 : (List Bool)) , f13_j2 m v282 v316 = some sx290 → (blkQ (X13 n) 3 k13_1 14 (seqQ (X13 n) p13_5 (lpQ (X13 n) k13_1 10 p13_4 nx285 (blkQ (X13 n) 2 [2, 4, 8, 21, 22, 23] 10 (seqQ (X13 n) p13_3 (blkQ (X13 n) 1 k13_0 8 (seqQ (X13 n) p13_2 (lpQ (X13 n) k13_0 4 p13_1 nx214 (blkQ (X13 n) 0 [2, 4, 5] 4 (seqQ (X13 n) p13_0 (fnQ (X13 n).E.T (resOf Proofs.Try.prog 13) (eB o)))))))))))) .normal ⟨Zs9 ((pilD 15 (List.map eB v210))::q1 ((.ptr 8 0)::(pilD 16 (List.map eB v316))::q12 ((dP e48 a1)::(dI (a1.length : Int))::(dI v211)::q7 ((dP e52 a0.fAs)::(dI (a0.fAs.length : Int))::(dI v282)::q40 (q2 []))))), [(b13_0 a0), .dead, .dead, .dead, .dead, .dead, .dead, .dead, (b13_1 v221), .dead, .dead, .dead, .dead, .dead, (b13_2 v294), (.row 1 (List.map eB v210)), (.row 1 (List.map eB v316))]⟩ := by
           intro v316  h
           unfold f13_j2 at h
           exact blkQ.m ⟨Zs9 ((pilD 14 (List.map eB v210))::q1 ((.ptr 8 0)::(pilD 15 (List.map eB v316))::q12 ((dP e48 a1)::(dI (a1.length : Int))::(dI v211)::q7 ((dP e52 a0.fAs)::(dI (a0.fAs.length : Int))::(dI v282)::q40 (q2 []))))), [(b13_0 a0), .dead, .dead, .dead, .dead, .dead, .dead, .dead, (b13_1 v221), .dead, .dead, .dead, .dead, .dead, (.row 1 (List.map eB v210)), (.row 1 (List.map eB v316))]⟩ <| J13j293 v316  h
          refine Wp.cd h k13_1 15 (fun h => ?_) (fun h => ?_)
          ·refine Rg 3 ?_
           obtain ⟨v318, ev318, h⟩ := bnd_some h
           refine Ops.on 4 (fun h0 e0 => (pil_ix (T := T) h0 66 4 1 13 eB v281 v294.fTo v318 ev318 kr kr (hq_of e0 kr))) ?_
           obtain ⟨v319, ev319, h⟩ := bnd_some h
           refine Ops.on 5 (fun h0 e0 => (pil_st (i := ti4) h0 1 13 0 eB v281 v319 v294.fTo v318 true (vB true) ev318 ev319 (hq_of e0 kr) kr kr kr)) <| Ops.st ⟨q2 ((.ptr 0 0)::q1 ((dB false)::(pilD 12 (List.map eB v210))::q1 ((.ptr 8 0)::(pilD 13 (List.map eB v281))::q1 ((.ptr 14 0)::q10 ((dP e48 a1)::(dI (a1.length : Int))::(dI v211)::q7 ((dP e52 a0.fAs)::(dI (a0.fAs.length : Int))::(dI v282)::q1 ((.vptr [(vI v294.fFr), (vI v294.fTo), (vI v294.fIn), (vI v294.fOut), (vI v294.fWt)])::(.v (.agg [(vI v294.fFr), (vI v294.fTo), (vI v294.fIn), (vI v294.fOut), (vI v294.fWt)]))::(pilD 12 (List.map eB v210))::(.ptr 14 0)::(dI v294.fFr)::(.eptr 12 (Int.toNat v294.fFr) 0)::(dB v303)::(dB v303)::d298::d299::d300::d301::d302::(dB v313)::(dB v313)::d308::d309::d310::d311::d312::(dB v314)::(pilD 13 (List.map eB v281))::(.ptr 14 1)::(dI v294.fTo)::(.eptr 13 (Int.toNat v294.fTo) 0)::q16 []))))))), [(b13_0 a0), .dead, .dead, .dead, .dead, .dead, .dead, .dead, (b13_1 v221), .dead, .dead, .dead, (.row 1 (List.map eB v210)), (.row 1 (List.map eB v319)), (b13_2 v294)]⟩ kr ?_
           rw [upd_pil ev319]
           exact Ops.dn (sqQ.m ⟨Zs9 ((pilD 15 (List.map eB v210))::q1 ((.ptr 8 0)::(pilD 16 (List.map eB v319))::q12 ((dP e48 a1)::(dI (a1.length : Int))::(dI v211)::q7 ((dP e52 a0.fAs)::(dI (a0.fAs.length : Int))::(dI v282)::q40 (q2 []))))), [(b13_0 a0), .dead, .dead, .dead, .dead, .dead, .dead, .dead, (b13_1 v221), .dead, .dead, .dead, .dead, .dead, (b13_2 v294), (.row 1 (List.map eB v210)), (.row 1 (List.map eB v319))]⟩ (J13j317 v319  h))
          ·exact Wp.sk (sqQ.m ⟨Zs9 ((pilD 15 (List.map eB v210))::q1 ((.ptr 8 0)::(pilD 16 (List.map eB v281))::q12 ((dP e48 a1)::(dI (a1.length : Int))::(dI v211)::q7 ((dP e52 a0.fAs)::(dI (a0.fAs.length : Int))::(dI v282)::q40 (q2 []))))), [(b13_0 a0), .dead, .dead, .dead, .dead, .dead, .dead, .dead, (b13_1 v221), .dead, .dead, .dead, .dead, .dead, (b13_2 v294), (.row 1 (List.map eB v210)), (.row 1 (List.map eB v281))]⟩ (J13j317 v281  h))
         refine Ops.hv (fun KQ => ∀ v306 : Bool, f13_r3 m v281 v282 v294 (v306 && (v294.fOut == v221.fSf)) = some sx290 → KQ 13 ⟨Zs6 v210 v281 a1 (a1.length : Int) v211 a0.fAs (a0.fAs.length : Int) v282 (.vptr [(vI v294.fFr), (vI v294.fTo), (vI v294.fIn), (vI v294.fOut), (vI v294.fWt)]) (.v (.agg [(vI v294.fFr), (vI v294.fTo), (vI v294.fIn), (vI v294.fOut), (vI v294.fWt)])) v294.fFr (.eptr 12 (Int.toNat v294.fFr) 0) v303 (d298::d299::d300::d301::d302::(dB v306)::(dB v306)::q26 []), [(b13_0 a0), .dead, .dead, .dead, .dead, .dead, .dead, .dead, (b13_1 v221), .dead, .dead, .dead, (.row 1 (List.map eB v210)), (.row 1 (List.map eB v281)), (b13_2 v294)]⟩) ?_ fun G13g307 => Ops.sx (G13g307 v304 h)
         intro v306 h
         cases v306
         ·exact Ops.sg 6 19 <| Ops.sx (J13j315 U U U U U false false h)
         ·exact Ops.sg 6 19 <| Ops.sx (J13j315 (.ptr 14 3) (dI v294.fOut) (.ptr 8 1) (dI v221.fSf) (dB (v294.fOut == v221.fSf)) true (v294.fOut == v221.fSf) h)
        refine Ops.hv (fun KQ => ∀ v296 : Bool, f13_r4 m v221 v281 v282 v294 (v296 && (v294.fIn == v221.fLx)) = some sx290 → KQ 6 ⟨Zs6 v210 v281 a1 (a1.length : Int) v211 a0.fAs (a0.fAs.length : Int) v282 (.vptr [(vI v294.fFr), (vI v294.fTo), (vI v294.fIn), (vI v294.fOut), (vI v294.fWt)]) (.v (.agg [(vI v294.fFr), (vI v294.fTo), (vI v294.fIn), (vI v294.fOut), (vI v294.fWt)])) v294.fFr (.eptr 12 (Int.toNat v294.fFr) 0) v296 (q33 []), [(b13_0 a0), .dead, .dead, .dead, .dead, .dead, .dead, .dead, (b13_1 v221), .dead, .dead, .dead, (.row 1 (List.map eB v210)), (.row 1 (List.map eB v281)), (b13_2 v294)]⟩) ?_ fun G13g297 => Ops.sx (G13g297 v295 h)
        intro v296 h
        cases v296
        ·exact Ops.sg 6 12 <| Ops.sx (J13j305 U U U U U false false h)
        ·exact Ops.sg 6 12 <| Ops.sx (J13j305 (.ptr 14 2) (dI v294.fIn) (.ptr 8 0) (dI v221.fLx) (dB (v294.fIn == v221.fLx)) true (v294.fIn == v221.fLx) h)
       ·refine Wp.ex 2 (sqQ.x (seqQ.x ?_))
        cases h
        exact lpQ.x (blkQ.w ⟨Zs9 (q3 ((pilD 11 (List.map eB v281))::q12 ((dP e48 a1)::(dI (a1.length : Int))::(dI v211)::q40 (q12 [])))), [(b13_0 a0), .dead, .dead, .dead, .dead, .dead, .dead, .dead, (b13_1 v221), .dead, (.row 1 (List.map eB v210)), (.row 1 (List.map eB v281))]⟩ (hxx288 (v281, v282)  hsx291))
     refine Wp.loop' k13_1 10 kr ⟨Zs9 ((pilD 10 (List.map eB v210))::q1 ((.ptr 8 0)::(pilD 11 (List.map eB v222))::q12 ((dP e48 a1)::(dI (a1.length : Int))::(dI v211)::q7 ((dP e52 a0.fAs)::(dI (a0.fAs.length : Int))::(dI 0)::q40 (q2 []))))), [(b13_0 a0), .dead, .dead, .dead, .dead, .dead, .dead, .dead, (b13_1 v221), .dead, (.row 1 (List.map eB v210)), (.row 1 (List.map eB v222))]⟩ kr ?_
     rcases brk_some h with ⟨r322, er322, h⟩ | ⟨y321, ey321, h⟩
     ·refine hLx320 _ v222 0  _ er322 n om (fun r er σ hσ => ?_) (fun y  ey => by cases ey)
      cases er
      refine seqQ.r (blkQ.r (seqQ.r (lpQ.r ?_)))
      cases h
      exact blkQ.r <| hrx216 _ hsx220 _ (RetOk.forget k13_0 kr hσ)
     ·refine hLx320 _ v222 0  _ ey321 n om (fun r er => by cases er) (fun y  ey => ?_)
      cases ey
      refine seqQ.n (Rg 2 (Ops.dn (blkQ.n' (seqQ.n (Rg 2 (Ops.dn (lpQ.m ⟨Zs9 ((pilD 4 (List.map eB y321.1))::q15 ((dP e48 a1)::(dI (a1.length : Int))::(dI (w64 (v211 + 1)))::q40 (q12 []))), [(b13_0 a0), .dead, .dead, .dead, (.row 1 (List.map eB y321.1)), .dead]⟩ ?_)))))))
      cases h
      exact ihx215 y321.1 (w64 (v211 + 1))  _ hsx220 _ om hrx216 hxx217
    ·refine Wp.ex 0 (sqQ.x (seqQ.x ?_))
     cases h
     exact lpQ.x (blkQ.w ⟨Zs9 ((pilD 4 (List.map eB v210))::q40 (q30 [])), [(b13_0 a0), .dead, .dead, .dead, (.row 1 (List.map eB v210)), .dead]⟩ (hxx217 (v210, v211)  hsx220))
  refine Wp.loop' k13_0 4 kr ⟨Zs9 ((pilD 4 (List.map eB v2))::q15 ((dP e48 a1)::(dI (a1.length : Int))::(dI 0)::q40 (q12 []))), [(b13_0 a0), .dead, .dead, .dead, (.row 1 (List.map eB v2)), .dead]⟩ kr ?_
  rcases brk_some h with ⟨r325, er325, h⟩ | ⟨y324, ey324, h⟩
  ·refine hLx323 _ v2 0  _ er325 n om (fun r er σ hσ => ?_) (fun y  ey => by cases ey)
   cases er
   exact seqQ.r <| fnQ.r' (X13 n) (fun z => (eB z)) h hσ
  ·refine hLx323 _ v2 0  _ ey324 n om (fun r er => by cases er) (fun y  ey => ?_)
   cases ey
   refine seqQ.n (Wp.sq (Sg 2 (Ops.on 3 (fun h0 e0 => (len_r (T := T) h0 26 55 .plain e54 a0.fFn kr)) (Ops.sg 1 4 (Dn (Wp.bk 4 [4] 6 ?_))))))
   have hLx343 : ∀ (kx333 : Nat) (v331 : Int)  (ox332 : Bool ⊕ (Int)), iter (fun (y : Int) => f13_B7 m a0 y324 y) kx333 v331 = some ox332 → ∀ nx334, kx333 ≤ nx334 → (∀ r, ox332 = .inl r → ∀ σ, RetOk (X13 n) (resOf Proofs.Try.prog 13) (eB r) σ → (seqQ (X13 n) (cR p13_0) (fnQ (X13 n).E.T (resOf Proofs.Try.prog 13) (eB o))) .ret σ) → (∀ (y : Int) , ox332 = .inr y → (seqQ (X13 n) (cR p13_0) (fnQ (X13 n).E.T (resOf Proofs.Try.prog 13) (eB o))) .normal ⟨q4 ((dB false)::q40 (q31 [])), [(b13_0 a0), .dead, .dead, .dead, .dead, .dead, (.row 1 (List.map eB y324.1)), .dead]⟩) → Lp (X13 n) [4, 5, 64, 65, 66] 6 (cL (cL (cR (cL p13_0)))) nx334 ⟨Zs29 y324.1 a0.fFn (a0.fFn.length : Int) ((dI v331)::q9 []), [(b13_0 a0), .dead, .dead, .dead, .dead, .dead, (.row 1 (List.map eB y324.1)), .dead]⟩ (blkQ (X13 n) 4 [4] 6 (seqQ (X13 n) (cR p13_0) (fnQ (X13 n).E.T (resOf Proofs.Try.prog 13) (eB o)))) := by
    intro kx333
    induction kx333 with
    | zero => intro v331  ox332 h; exact (iter_zero h).elim
    | succ kx333 ihx335 =>
     intro v331  ox332 h nx334 hnx338 hrx336 hxx337
     obtain ⟨nx334, rfl⟩ : ∃ q, nx334 = q + 1 := ⟨nx334 - 1, om⟩
     obtain ⟨sx339, h, hsx340⟩ := iter_some h
     have h : f13_B7 m a0 y324 v331 = some sx339 := h
     unfold f13_B7 at h
     refine Lp.succ (Sg 1 (Dn (Wp.sq (Wp.cd h [4, 5, 64, 65, 66] 8 (fun h => ?_) (fun h => ?_)))))
     ·refine Kn (Wp.sq (Wp.bk 5 [4, 5, 64, 65, 66] 10 (Wp.sq (Wp.rg ?_))))
      obtain ⟨v341, ev341, h⟩ := bnd_some h
      refine Ops.on 1 (fun h0 e0 => (ix_r (T := T) h0 26 55 2 .plain e54 a0.fFn v331 v341 ev341 kr kr (fun _ => rfl))) <| Ops.sg 3 4 (Dn (Sg 3 ?_))
      obtain ⟨v342, ev342, h⟩ := bnd_some h
      refine Ops.on 4 (fun h0 e0 => (pil_ix (T := T) h0 66 4 1 8 eB y324.1 v341.fSe v342 ev342 kr kr (hq_of e0 kr))) <| Ops.on 5 (fun h0 e0 => (pil_ld (i := ti4) h0 1 8 0 eB y324.1 v341.fSe v342 (vB v342) ev342 (hq_of e0 kr) kr)) <| Dn <| Wp.cd h [4, 5, 64, 65, 66] 11 (fun h => ?_) (fun h => ?_)
      ·refine Sg 1 (Dn (Wp.rt (sqQ.r (blkQ.r (seqQ.r ?_)))))
       cases h
       exact lpQ.r (blkQ.r (hrx336 _ hsx340 _ (RetOk.forget [4, 5, 64, 65, 66] kr (RetOk.mk' (dB true) kr kr))))
      ·refine Wp.sk (sqQ.n' (blkQ.n' (seqQ.n (Rg 2 (Ops.dn (lpQ.m ⟨Zs29 y324.1 a0.fFn (a0.fFn.length : Int) ((dI (w64 (v331 + 1)))::q9 []), [(b13_0 a0), .dead, .dead, .dead, .dead, .dead, (.row 1 (List.map eB y324.1)), .dead]⟩ ?_))))))
       cases h
       exact ihx335 (w64 (v331 + 1))  _ hsx340 _ om hrx336 hxx337
     ·refine Wp.ex 4 (sqQ.x (seqQ.x ?_))
      cases h
      exact lpQ.x (blkQ.w ⟨q4 ((dB false)::q40 (q31 [])), [(b13_0 a0), .dead, .dead, .dead, .dead, .dead, (.row 1 (List.map eB y324.1)), .dead]⟩ (hxx337 v331  hsx340))
   refine Wp.loop' [4, 5, 64, 65, 66] 6 kr ⟨Zs29 y324.1 a0.fFn (a0.fFn.length : Int) ((dI 0)::q9 []), [(b13_0 a0), .dead, .dead, .dead, .dead, .dead, (.row 1 (List.map eB y324.1)), .dead]⟩ kr ?_
   rcases brk_some h with ⟨r345, er345, h⟩ | ⟨y344, ey344, h⟩
   ·refine hLx343 _ 0  _ er345 n om (fun r er σ hσ => ?_) (fun y  ey => by cases ey)
    cases er
    exact seqQ.r <| fnQ.r' (X13 n) (fun z => (eB z)) h hσ
   ·refine hLx343 _ 0  _ ey344 n om (fun r er => by cases er) (fun y  ey => ?_)
    cases ey
    exact seqQ.n (Sg 1 (Dn (Wp.rt (fnQ.r' (X13 n) (fun z => (eB z)) h (RetOk.mk' (dB false) kr kr)))))
 refine Wp.cd h [1, 2, 4, 5] 2 (fun h => ?_) (fun h => ?_)
 ·refine Rg 1 ?_
  obtain ⟨v346, ev346, h⟩ := bnd_some h
  refine Ops.on 2 (fun h0 e0 => (pil_ix (T := T) h0 66 4 1 1 eB v1 0 v346 ev346 kr kr (hq_of e0 kr))) ?_
  obtain ⟨v347, ev347, h⟩ := bnd_some h
  refine Ops.on 3 (fun h0 e0 => (pil_st (i := ti4) h0 1 1 0 eB v1 v347 0 v346 true (vB true) ev346 ev347 (hq_of e0 kr) kr kr kr)) <| Ops.st ⟨(.v (.agg [(vI a0.fSt), (vP e52 a0.fAs), (vP e54 a0.fFn)]))::(dP e48 a1)::(.ptr 0 0)::u1 ((dB false)::(pilD 1 (List.map eB v1))::u7 ((.ptr 0 0)::(dI a0.fSt)::(pilD 1 (List.map eB v1))::(.ptr 0 0)::(dI a0.fSt)::(dB (decide (a0.fSt > 0)))::(pilD 1 (List.map eB v1))::(.eptr 1 (Int.toNat 0) 0)::u40 (u15 []))), [(b13_0 a0), (.row 1 (List.map eB v347))]⟩ kr ?_
  rw [upd_pil ev347]
  exact Ops.dn (sqQ.m ⟨Zs23 a1 v347 [], [(b13_0 a0), .dead, (.row 1 (List.map eB v347)), .dead]⟩ (J13j3 v347  h))
 ·exact Wp.sk (sqQ.m ⟨Zs23 a1 v1 [], [(b13_0 a0), .dead, (.row 1 (List.map eB v1)), .dead]⟩ (J13j3 v1  h))
def f17_B1 (m : Nat) (a0 a1 : S27) (v30 : Int) : Option (Stp Bool (Int)) :=
 cnd (decide (v30 < (a0.fAs.length : Int)))
 (bnd (idx a0.fAs v30) fun v40 =>
 bnd (idx a1.fAs v30) fun v41 =>
 cnd (!((v40.fFr == v41.fFr) && ((v40.fTo == v41.fTo) && ((v40.fIn == v41.fIn) && ((v40.fOut == v41.fOut) && ((v40.fWt == v41.fWt) && true))))))
 (some (.ret false))
 (some (.nxt (w64 (v30 + 1)))))
 (some (.brk v30))
def f17_B2 (m : Nat) (a0 a1 : S27) (v50 : Int) : Option (Stp Bool (Int)) :=
 cnd (decide (v50 < (a0.fFn.length : Int)))
 (bnd (idx a0.fFn v50) fun v60 =>
 bnd (idx a1.fFn v50) fun v61 =>
 cnd (!((v60.fSe == v61.fSe) && ((v60.fWt == v61.fWt) && true)))
 (some (.ret false))
 (some (.nxt (w64 (v50 + 1)))))
 (some (.brk v50))
def f17_r3 (m : Nat) (a0 a1 : S27) (v23 : Bool) : Option Bool :=
 cnd v23
 (some false)
 (brk (iter (fun (y : Int) => f17_B1 m a0 a1 y) m 0) some fun y43 =>
 brk (iter (fun (y : Int) => f17_B2 m a0 a1 y) m 0) some fun y63 =>
 some true)
def f17_r4 (m : Nat) (a0 a1 : S27) (v11 : Bool) : Option Bool :=
 f17_r3 m a0 a1 (v11 || ((a0.fFn.length : Int) != (a1.fFn.length : Int)))
def f17 (m : Nat) (a0 a1 : S27) : Option Bool :=
 f17_r4 m a0 a1 ((a0.fSt != a1.fSt) || ((a0.fAs.length : Int) != (a1.fAs.length : Int)))
noncomputable abbrev X17 (n : Nat) : Cx := cxOf Proofs.Try.prog E 17 n
noncomputable def C17 : Code := bodyOf Proofs.Try.prog 17
abbrev b17_0 (w0 : S27) : AObj := .cells [(dI w0.fSt), (dP e52 w0.fAs), (dP e54 w0.fFn)]
theorem ok17 (m : Nat) (a0 a1 : S27) (o : Bool) (h : f17 m a0 a1 = some o) (n : Nat) (hn : m + 1 ≤ n) : Fn Proofs.Try.prog E n 17 [.v (e27 a0), .v (e27 a1)] (eB o) := by
 obtain ⟨n, rfl⟩ : ∃ q, n = q + 1 := ⟨n - 1, om⟩
 unfold f17 at h
 refine Fn.of kr kr kr ⟨(.v (.agg [(vI a0.fSt), (vP e52 a0.fAs), (vP e54 a0.fFn)]))::(.v (.agg [(vI a1.fSt), (vP e52 a1.fAs), (vP e54 a1.fFn)]))::u40 (u24 []), []⟩ kr (Sg 3 (Dn (Wp.sq (Sg 6 (Ops.hv (fun KQ => ∀ (d3 d4 d5 d6 d7 d8 d9 : D) (v10 v11 : Bool), f17_r4 m a0 a1 v11 = some o → KQ 14 ⟨Zs14 (.v (.agg [(vI a0.fSt), (vP e52 a0.fAs), (vP e54 a0.fFn)])) (.v (.agg [(vI a1.fSt), (vP e52 a1.fAs), (vP e54 a1.fFn)])) (u2 ((.ptr 0 0)::(dI a0.fSt)::(.ptr 1 0)::(dI a1.fSt)::(dB v10)::(dB v10)::d3::d4::d5::d6::d7::d8::d9::(dB v11)::u40 (u5 []))), [(b17_0 a0), (b17_0 a1)]⟩) ?_ fun J17j12 => ?_)))))
 ·intro d3 d4 d5 d6 d7 d8 d9 v10 v11 h
  unfold f17_r4 at h
  refine Ops.sg 1 15 <| Ops.hv (fun KQ => ∀ (d15 d16 d17 d18 d19 d20 d21 : D) (v22 v23 : Bool), f17_r3 m a0 a1 v23 = some o → KQ 23 ⟨Zs14 (.v (.agg [(vI a0.fSt), (vP e52 a0.fAs), (vP e54 a0.fFn)])) (.v (.agg [(vI a1.fSt), (vP e52 a1.fAs), (vP e54 a1.fFn)])) (u2 ((.ptr 0 0)::(dI a0.fSt)::(.ptr 1 0)::(dI a1.fSt)::(dB v10)::(dB v10)::d3::d4::d5::d6::d7::d8::d9::(dB v22)::(dB v22)::d15::d16::d17::d18::d19::d20::d21::(dB v23)::u36 [])), [(b17_0 a0), (b17_0 a1)]⟩) ?_ fun J17j24 => ?_
  ·intro d15 d16 d17 d18 d19 d20 d21 v22 v23 h
   unfold f17_r3 at h
   refine Dn <| Wp.cd h [2, 3, 4] 2 (fun h => ?_) (fun h => ?_)
   ·exact Sg 1 (Dn (Wp.rt (sqQ.r (seqQ.r (fnQ.r' (X17 n) (fun z => (eB z)) h (RetOk.mk' (dB false) kr kr))))))
   ·refine Kn (Wp.sq (Sg 2 (Ops.on 3 (fun h0 e0 => (len_r (T := T) h0 25 53 .plain e52 a0.fAs kr)) (Ops.sg 1 4 (Dn (Wp.bk 0 [2, 3, 4] 2 ?_))))))
    have hLx42 : ∀ (kx32 : Nat) (v30 : Int)  (ox31 : Bool ⊕ (Int)), iter (fun (y : Int) => f17_B1 m a0 a1 y) kx32 v30 = some ox31 → ∀ nx33, kx32 ≤ nx33 → (∀ r, ox31 = .inl r → ∀ σ, RetOk (X17 n) (resOf Proofs.Try.prog 17) (eB r) σ → (seqQ (X17 n) (cR (cR (cR C17))) (fnQ (X17 n).E.T (resOf Proofs.Try.prog 17) (eB o))) .ret σ) → (∀ (y : Int) , ox31 = .inr y → (seqQ (X17 n) (cR (cR (cR C17))) (fnQ (X17 n).E.T (resOf Proofs.Try.prog 17) (eB o))) .normal ⟨Zs13 (q27 ((dI (a0.fAs.length : Int))::(dI y)::q32 [])), [(b17_0 a0), (b17_0 a1)]⟩) → Lp (X17 n) [2, 3, 4, 32, 33] 2 (cL (cL (cR (cL (cR (cR C17)))))) nx33 ⟨Zs13 (q27 ((dI (a0.fAs.length : Int))::(dI v30)::q32 [])), [(b17_0 a0), (b17_0 a1)]⟩ (blkQ (X17 n) 0 [2, 3, 4] 2 (seqQ (X17 n) (cR (cR (cR C17))) (fnQ (X17 n).E.T (resOf Proofs.Try.prog 17) (eB o)))) := by
     intro kx32
     induction kx32 with
     | zero => intro v30  ox31 h; exact (iter_zero h).elim
     | succ kx32 ihx34 =>
      intro v30  ox31 h nx33 hnx37 hrx35 hxx36
      obtain ⟨nx33, rfl⟩ : ∃ q, nx33 = q + 1 := ⟨nx33 - 1, om⟩
      obtain ⟨sx38, h, hsx39⟩ := iter_some h
      have h : f17_B1 m a0 a1 v30 = some sx38 := h
      unfold f17_B1 at h
      refine Lp.succ (Sg 1 (Dn (Wp.sq (Wp.cd h [2, 3, 4, 32, 33] 2 (fun h => ?_) (fun h => ?_)))))
      ·refine Kn (Wp.sq (Wp.bk 1 [2, 3, 4, 32, 33] 2 (Sg 2 (Dn (Sg 3 ?_)))))
       obtain ⟨v40, ev40, h⟩ := bnd_some h
       refine Ops.on 4 (fun h0 e0 => (ix_r (T := T) h0 25 53 5 .plain e52 a0.fAs v30 v40 ev40 kr kr (fun _ => rfl))) <| Ops.sg 4 8 ?_
       obtain ⟨v41, ev41, h⟩ := bnd_some h
       refine Ops.on 9 (fun h0 e0 => (ix_r (T := T) h0 25 53 5 .plain e52 a1.fAs v30 v41 ev41 kr kr (fun _ => rfl))) <| Ops.sg 2 11 (Dn (Wp.cd h [2, 3, 4, 32, 33] 2 (fun h => ?_) (fun h => ?_)))
       ·refine Sg 1 (Dn (Wp.rt (sqQ.r (blkQ.r (seqQ.r ?_)))))
        cases h
        exact lpQ.r (blkQ.r (hrx35 _ hsx39 _ (RetOk.forget [2, 3, 4, 32, 33] kr (RetOk.mk' (dB false) kr kr))))
       ·refine Wp.sk (sqQ.n' (blkQ.n' (seqQ.n (Rg 2 (Ops.dn (lpQ.m ⟨Zs13 (q27 ((dI (a0.fAs.length : Int))::(dI (w64 (v30 + 1)))::q32 [])), [(b17_0 a0), (b17_0 a1)]⟩ ?_))))))
        cases h
        exact ihx34 (w64 (v30 + 1))  _ hsx39 _ om hrx35 hxx36
      ·refine Wp.ex 0 (sqQ.x (seqQ.x ?_))
       cases h
       exact lpQ.x (blkQ.w ⟨Zs13 (q27 ((dI (a0.fAs.length : Int))::(dI v30)::q32 [])), [(b17_0 a0), (b17_0 a1)]⟩ (hxx36 v30  hsx39))
    refine Wp.loop' [2, 3, 4, 32, 33] 2 kr ⟨Zs13 (q27 ((dI (a0.fAs.length : Int))::(dI 0)::q32 [])), [(b17_0 a0), (b17_0 a1)]⟩ kr ?_
    rcases brk_some h with ⟨r44, er44, h⟩ | ⟨y43, ey43, h⟩
    ·refine hLx42 _ 0  _ er44 n om (fun r er σ hσ => ?_) (fun y  ey => by cases ey)
     cases er
     exact seqQ.r <| fnQ.r' (X17 n) (fun z => (eB z)) h hσ
    ·refine hLx42 _ 0  _ ey43 n om (fun r er => by cases er) (fun y  ey => ?_)
     cases ey
     refine seqQ.n (Wp.sq (Sg 2 (Ops.on 3 (fun h0 e0 => (len_r (T := T) h0 26 55 .plain e54 a0.fFn kr)) (Ops.sg 1 4 (Dn (Wp.bk 2 [4] 2 ?_))))))
     have hLx62 : ∀ (kx52 : Nat) (v50 : Int)  (ox51 : Bool ⊕ (Int)), iter (fun (y : Int) => f17_B2 m a0 a1 y) kx52 v50 = some ox51 → ∀ nx53, kx52 ≤ nx53 → (∀ r, ox51 = .inl r → ∀ σ, RetOk (X17 n) (resOf Proofs.Try.prog 17) (eB r) σ → (seqQ (X17 n) (cR (cR (cR (cR C17)))) (fnQ (X17 n).E.T (resOf Proofs.Try.prog 17) (eB o))) .ret σ) → (∀ (y : Int) , ox51 = .inr y → (seqQ (X17 n) (cR (cR (cR (cR C17)))) (fnQ (X17 n).E.T (resOf Proofs.Try.prog 17) (eB o))) .normal ⟨Zs13 (q40 (q5 ((dI (a0.fFn.length : Int))::(dI y)::q14 []))), [(b17_0 a0), (b17_0 a1)]⟩) → Lp (X17 n) [2, 3, 4, 50, 51] 2 (cL (cL (cR (cL (cR (cR (cR C17))))))) nx53 ⟨Zs13 (q40 (q5 ((dI (a0.fFn.length : Int))::(dI v50)::q14 []))), [(b17_0 a0), (b17_0 a1)]⟩ (blkQ (X17 n) 2 [4] 2 (seqQ (X17 n) (cR (cR (cR (cR C17)))) (fnQ (X17 n).E.T (resOf Proofs.Try.prog 17) (eB o)))) := by
      intro kx52
      induction kx52 with
      | zero => intro v50  ox51 h; exact (iter_zero h).elim
      | succ kx52 ihx54 =>
       intro v50  ox51 h nx53 hnx57 hrx55 hxx56
       obtain ⟨nx53, rfl⟩ : ∃ q, nx53 = q + 1 := ⟨nx53 - 1, om⟩
       obtain ⟨sx58, h, hsx59⟩ := iter_some h
       have h : f17_B2 m a0 a1 v50 = some sx58 := h
       unfold f17_B2 at h
       refine Lp.succ (Sg 1 (Dn (Wp.sq (Wp.cd h [2, 3, 4, 50, 51] 2 (fun h => ?_) (fun h => ?_)))))
       ·refine Kn (Wp.sq (Wp.bk 3 [2, 3, 4, 50, 51] 2 (Sg 2 (Dn (Sg 3 ?_)))))
        obtain ⟨v60, ev60, h⟩ := bnd_some h
        refine Ops.on 4 (fun h0 e0 => (ix_r (T := T) h0 26 55 2 .plain e54 a0.fFn v50 v60 ev60 kr kr (fun _ => rfl))) <| Ops.sg 4 8 ?_
        obtain ⟨v61, ev61, h⟩ := bnd_some h
        refine Ops.on 9 (fun h0 e0 => (ix_r (T := T) h0 26 55 2 .plain e54 a1.fFn v50 v61 ev61 kr kr (fun _ => rfl))) <| Ops.sg 2 11 (Dn (Wp.cd h [2, 3, 4, 50, 51] 2 (fun h => ?_) (fun h => ?_)))
        ·refine Sg 1 (Dn (Wp.rt (sqQ.r (blkQ.r (seqQ.r ?_)))))
         cases h
         exact lpQ.r (blkQ.r (hrx55 _ hsx59 _ (RetOk.forget [2, 3, 4, 50, 51] kr (RetOk.mk' (dB false) kr kr))))
        ·refine Wp.sk (sqQ.n' (blkQ.n' (seqQ.n (Rg 2 (Ops.dn (lpQ.m ⟨Zs13 (q40 (q5 ((dI (a0.fFn.length : Int))::(dI (w64 (v50 + 1)))::q14 []))), [(b17_0 a0), (b17_0 a1)]⟩ ?_))))))
         cases h
         exact ihx54 (w64 (v50 + 1))  _ hsx59 _ om hrx55 hxx56
       ·refine Wp.ex 2 (sqQ.x (seqQ.x ?_))
        cases h
        exact lpQ.x (blkQ.w ⟨Zs13 (q40 (q5 ((dI (a0.fFn.length : Int))::(dI v50)::q14 []))), [(b17_0 a0), (b17_0 a1)]⟩ (hxx56 v50  hsx59))
     refine Wp.loop' [2, 3, 4, 50, 51] 2 kr ⟨Zs13 (q40 (q5 ((dI (a0.fFn.length : Int))::(dI 0)::q14 []))), [(b17_0 a0), (b17_0 a1)]⟩ kr ?_
     rcases brk_some h with ⟨r64, er64, h⟩ | ⟨y63, ey63, h⟩
     ·refine hLx62 _ 0  _ er64 n om (fun r er σ hσ => ?_) (fun y  ey => by cases ey)
      cases er
      exact seqQ.r <| fnQ.r' (X17 n) (fun z => (eB z)) h hσ
     ·refine hLx62 _ 0  _ ey63 n om (fun r er => by cases er) (fun y  ey => ?_)
      cases ey
      exact seqQ.n (Sg 1 (Dn (Wp.rt (fnQ.r' (X17 n) (fun z => (eB z)) h (RetOk.mk' (dB true) kr kr)))))
  refine Ops.hv (fun KQ => ∀ v13 : Bool, f17_r3 m a0 a1 (v13 || ((a0.fFn.length : Int) != (a1.fFn.length : Int))) = some o → KQ 15 ⟨Zs14 (.v (.agg [(vI a0.fSt), (vP e52 a0.fAs), (vP e54 a0.fFn)])) (.v (.agg [(vI a1.fSt), (vP e52 a1.fAs), (vP e54 a1.fFn)])) (u2 ((.ptr 0 0)::(dI a0.fSt)::(.ptr 1 0)::(dI a1.fSt)::(dB v10)::(dB v10)::d3::d4::d5::d6::d7::d8::d9::(dB v13)::(dB v13)::u40 (u4 []))), [(b17_0 a0), (b17_0 a1)]⟩) ?_ fun G17g14 => Ops.sx (G17g14 v11 h)
  intro v13 h
  cases v13
  ·exact Ops.sg 2 17 <| Ops.on 18 (fun h0 e0 => (len_r (T := T) h0 26 55 .plain e54 a0.fFn kr)) <| Ops.sg 2 20 <| Ops.on 21 (fun h0 e0 => (len_r (T := T) h0 26 55 .plain e54 a1.fFn kr)) <| Ops.sg 2 23 <| Ops.sx (J17j24 (.ptr 0 2) (dP e54 a0.fFn) (dI (a0.fFn.length : Int)) (.ptr 1 2) (dP e54 a1.fFn) (dI (a1.fFn.length : Int)) (dB ((a0.fFn.length : Int) != (a1.fFn.length : Int))) false ((a0.fFn.length : Int) != (a1.fFn.length : Int)) h)
  ·exact Ops.sg 8 23 <| Ops.sx (J17j24 U U U U U U U true true h)
 refine Ops.hv (fun KQ => ∀ v1 : Bool, f17_r4 m a0 a1 (v1 || ((a0.fAs.length : Int) != (a1.fAs.length : Int))) = some o → KQ 6 ⟨Zs14 (.v (.agg [(vI a0.fSt), (vP e52 a0.fAs), (vP e54 a0.fFn)])) (.v (.agg [(vI a1.fSt), (vP e52 a1.fAs), (vP e54 a1.fFn)])) (u2 ((.ptr 0 0)::(dI a0.fSt)::(.ptr 1 0)::(dI a1.fSt)::(dB v1)::(dB v1)::u40 (u13 []))), [(b17_0 a0), (b17_0 a1)]⟩) ?_ fun G17g2 => Ops.sx (G17g2 (a0.fSt != a1.fSt) h)
 intro v1 h
 cases v1
 ·exact Ops.sg 2 8 <| Ops.on 9 (fun h0 e0 => (len_r (T := T) h0 25 53 .plain e52 a0.fAs kr)) <| Ops.sg 2 11 <| Ops.on 12 (fun h0 e0 => (len_r (T := T) h0 25 53 .plain e52 a1.fAs kr)) <| Ops.sg 2 14 <| Ops.sx (J17j12 (.ptr 0 1) (dP e52 a0.fAs) (dI (a0.fAs.length : Int)) (.ptr 1 1) (dP e52 a1.fAs) (dI (a1.fAs.length : Int)) (dB ((a0.fAs.length : Int) != (a1.fAs.length : Int))) false ((a0.fAs.length : Int) != (a1.fAs.length : Int)) h)
 ·exact Ops.sg 8 14 <| Ops.sx (J17j12 U U U U U U U true true h)
end Go.Abs
