import Derived.Test.YtkmmaelmdioleaaGreatDoorAbsW
import Derived.Test.YtkmmaelmdioleaaGreatDoorAbsL
import Derived.Test.YtkmmaelmdioleaaGreatDoorAbsN
import Derived.Test.YtkmmaelmdioleaaGreatDoorAbsH
import Derived.Test.YtkmmaelmdioleaaGreatDoorShelf
import Derived.Test.YtkmmaelmdioleaaGreatDoorAbsRw
import Derived.Test.YtkmmaelmdioleaaGreatDoorAbsLc
import Derived.Test.YtkmmaelmdioleaaGreatDoorProg
namespace Go.Abs
set_option linter.unusedVariables false
set_option linter.unusedSimpArgs false
set_option linter.unnecessarySimpa false
set_option maxRecDepth 100000
theorem Ops.hv {X : Cx} {ops : List Oper} {i : Nat} {σ : St} {Q : St → Prop} (P : (Nat → St → Prop) → Prop) (h1 : P fun j τ => Ops X ops j τ Q) (h2 : (P fun j τ => Ops X ops j τ Q) → Ops X ops i σ Q) : Ops X ops i σ Q := h2 h1
def ti3 : TI := ⟨.int .i64, 1, 8, .int .i64 (0), true, []⟩
def ti4 : TI := ⟨.bool, 1, 1, .bool false, true, []⟩
def ti5 : TI := ⟨.int .u8, 1, 1, .int .u8 (0), true, []⟩
def ti9 : TI := ⟨.str, 1, 16, .str ByteArray.empty, true, []⟩
def ti21 : TI := ⟨.int .i32, 1, 4, .int .i32 (0), true, []⟩
def ti22 : TI := ⟨.slice 9, 1, 24, .sl .nil [], true, []⟩
def ti23 : TI := ⟨.slice 57, 1, 24, .sl .nil [], true, []⟩
def ti25 : TI := ⟨.slice 64, 1, 24, .sl .nil [], true, []⟩
def ti27 : TI := ⟨.struct [(0, 3), (1, 3)], 2, 16, .agg [.int .i64 (0), .int .i64 (0)], true, []⟩
def ti30 : TI := ⟨.slice 135, 1, 24, .sl .nil [], true, []⟩
def ti31 : TI := ⟨.slice 137, 1, 24, .sl .nil [], true, []⟩
def ti33 : TI := ⟨.struct [(0, 3), (1, 30), (2, 31)], 3, 56, .agg [.int .i64 (0), .sl .nil [], .sl .nil []], true, []⟩
def ti35 : TI := ⟨.struct [(0, 33), (3, 22)], 4, 80, .agg [.int .i64 (0), .sl .nil [], .sl .nil [], .sl .nil []], true, [("Readings", some (16, false)), ("glosswright/analyse.reading", some (36, false))]⟩
def ti41 : TI := ⟨.slice 96, 1, 24, .sl .nil [], true, []⟩
def ti43 : TI := ⟨.struct [(0, 41)], 1, 24, .agg [.sl .nil []], true, []⟩
def ti45 : TI := ⟨.slice 99, 1, 24, .sl .nil [], true, []⟩
def ti47 : TI := ⟨.slice 62, 1, 24, .sl .nil [], true, []⟩
def ti49 : TI := ⟨.struct [(0, 47)], 1, 24, .agg [.sl .nil []], true, []⟩
def ti50 : TI := ⟨.slice 52, 1, 24, .sl .nil [], true, []⟩
def ti52 : TI := ⟨.struct [(0, 9), (1, 50)], 2, 40, .agg [.str ByteArray.empty, .sl .nil []], true, []⟩
def ti53 : TI := ⟨.slice 55, 1, 24, .sl .nil [], true, []⟩
def ti55 : TI := ⟨.struct [(0, 3), (1, 9), (2, 3), (3, 52), (5, 53)], 6, 96, .agg [.int .i64 (0), .str ByteArray.empty, .int .i64 (0), .str ByteArray.empty, .sl .nil [], .sl .nil []], true, []⟩
def ti57 : TI := ⟨.struct [(0, 22), (1, 49), (2, 55)], 8, 144, .agg [.sl .nil [], .sl .nil [], .int .i64 (0), .str ByteArray.empty, .int .i64 (0), .str ByteArray.empty, .sl .nil [], .sl .nil []], true, []⟩
def ti60 : TI := ⟨.slice 117, 1, 24, .sl .nil [], true, []⟩
def ti62 : TI := ⟨.struct [(0, 3), (1, 60)], 2, 32, .agg [.int .i64 (0), .sl .nil []], true, []⟩
def ti64 : TI := ⟨.struct [(0, 9), (1, 49), (2, 3), (3, 55)], 9, 144, .agg [.str ByteArray.empty, .sl .nil [], .int .i64 (0), .int .i64 (0), .str ByteArray.empty, .int .i64 (0), .str ByteArray.empty, .sl .nil [], .sl .nil []], true, []⟩
def ti68 : TI := ⟨.slice 72, 1, 24, .sl .nil [], true, []⟩
def ti72 : TI := ⟨.struct [(0, 9), (1, 22), (2, 3)], 3, 48, .agg [.str ByteArray.empty, .sl .nil [], .int .i64 (0)], true, []⟩
def ti74 : TI := ⟨.ptr 76, 1, 8, .nilptr, true, [("glosswright/bridgelex.more", some (42, true)), ("glosswright/bridgelex.simple", some (43, true)), ("glosswright/bridgelex.term", some (19, true))]⟩
def ti76 : TI := ⟨.struct [(0, 9), (1, 3), (2, 4)], 3, 32, .agg [.str ByteArray.empty, .int .i64 (0), .bool false], true, []⟩
def ti80 : TI := ⟨.ptr 82, 1, 8, .nilptr, true, [("glosswright/glosswrightref6.simple", some (46, true)), ("glosswright/glosswrightref6.term", some (23, true))]⟩
def ti82 : TI := ⟨.struct [(0, 3), (1, 4)], 2, 16, .agg [.int .i64 (0), .bool false], true, []⟩
def ti84 : TI := ⟨.slice 125, 1, 24, .sl .nil [], true, []⟩
def ti93 : TI := ⟨.struct [(0, 9), (1, 9), (2, 22), (3, 3), (4, 3)], 5, 72, .agg [.str ByteArray.empty, .str ByteArray.empty, .sl .nil [], .int .i64 (0), .int .i64 (0)], true, []⟩
def ti94 : TI := ⟨.slice 93, 1, 24, .sl .nil [], true, []⟩
def ti96 : TI := ⟨.struct [(0, 9), (1, 94)], 2, 40, .agg [.str ByteArray.empty, .sl .nil []], true, []⟩
def ti97 : TI := ⟨.slice 3, 1, 24, .sl .nil [], true, []⟩
def ti99 : TI := ⟨.struct [(0, 3), (1, 3)], 2, 16, .agg [.int .i64 (0), .int .i64 (0)], true, []⟩
def ti105 : TI := ⟨.slice 109, 1, 24, .sl .nil [], true, []⟩
def ti109 : TI := ⟨.struct [(0, 97), (1, 97), (2, 3)], 3, 56, .agg [.sl .nil [], .sl .nil [], .int .i64 (0)], true, []⟩
def ti117 : TI := ⟨.struct [(0, 3), (1, 3)], 2, 16, .agg [.int .i64 (0), .int .i64 (0)], true, []⟩
def ti123 : TI := ⟨.slice 179, 1, 24, .sl .nil [], true, []⟩
def ti125 : TI := ⟨.struct [(0, 3), (1, 99), (3, 123)], 4, 48, .agg [.int .i64 (0), .int .i64 (0), .int .i64 (0), .sl .nil []], true, []⟩
def ti130 : TI := ⟨.slice 97, 1, 24, .sl .nil [], true, []⟩
def ti131 : TI := ⟨.slice 4, 1, 24, .sl .nil [], true, []⟩
def ti135 : TI := ⟨.struct [(0, 3), (1, 3), (2, 3), (3, 3), (4, 3)], 5, 40, .agg [.int .i64 (0), .int .i64 (0), .int .i64 (0), .int .i64 (0), .int .i64 (0)], true, []⟩
def ti137 : TI := ⟨.struct [(0, 3), (1, 3)], 2, 16, .agg [.int .i64 (0), .int .i64 (0)], true, []⟩
def ti147 : TI := ⟨.struct [(0, 144), (1, 145)], 2, 16, .agg [.nilmap, .nilmap], true, [("glosswright/compose.has", some (101, false)), ("glosswright/compose.useful", some (64, false))]⟩
def ti150 : TI := ⟨.slice 153, 1, 24, .sl .nil [], true, []⟩
def ti153 : TI := ⟨.struct [(0, 3), (1, 3)], 2, 16, .agg [.int .i64 (0), .int .i64 (0)], true, []⟩
def ti154 : TI := ⟨.slice 156, 1, 24, .sl .nil [], true, []⟩
def ti156 : TI := ⟨.struct [(0, 153), (2, 3), (3, 3), (4, 3)], 5, 40, .agg [.int .i64 (0), .int .i64 (0), .int .i64 (0), .int .i64 (0), .int .i64 (0)], true, []⟩
def ti179 : TI := ⟨.struct [(0, 45), (1, 45), (2, 4), (3, 4)], 4, 56, .agg [.sl .nil [], .sl .nil [], .bool false, .bool false], true, []⟩
def ti201 : TI := ⟨.slice 30, 1, 24, .sl .nil [], true, []⟩
def ti212 : TI := ⟨.slice 213, 1, 24, .sl .nil [], true, []⟩
def ti213 : TI := ⟨.slice 215, 1, 24, .sl .nil [], true, []⟩
def ti215 : TI := ⟨.struct [(0, 3), (1, 3), (2, 3), (3, 3)], 4, 32, .agg [.int .i64 (0), .int .i64 (0), .int .i64 (0), .int .i64 (0)], true, []⟩
def ti216 : TI := ⟨.slice 222, 1, 24, .sl .nil [], true, []⟩
def ti220 : TI := ⟨.struct [], 0, 0, .agg [], true, [("Less", some (245, false)), ("Times", some (246, false))]⟩
def ti222 : TI := ⟨.struct [(0, 3), (1, 97), (2, 97), (3, 3)], 4, 64, .agg [.int .i64 (0), .sl .nil [], .sl .nil [], .int .i64 (0)], true, []⟩
def T (t : Nat) : Option TI := match t with
 | 3 => some ti3
 | 4 => some ti4
 | 5 => some ti5
 | 9 => some ti9
 | 21 => some ti21
 | 22 => some ti22
 | 23 => some ti23
 | 25 => some ti25
 | 27 => some ti27
 | 30 => some ti30
 | 31 => some ti31
 | 33 => some ti33
 | 35 => some ti35
 | 41 => some ti41
 | 43 => some ti43
 | 45 => some ti45
 | 47 => some ti47
 | 49 => some ti49
 | 50 => some ti50
 | 52 => some ti52
 | 53 => some ti53
 | 55 => some ti55
 | 57 => some ti57
 | 60 => some ti60
 | 62 => some ti62
 | 64 => some ti64
 | 68 => some ti68
 | 72 => some ti72
 | 74 => some ti74
 | 76 => some ti76
 | 80 => some ti80
 | 82 => some ti82
 | 84 => some ti84
 | 93 => some ti93
 | 94 => some ti94
 | 96 => some ti96
 | 97 => some ti97
 | 99 => some ti99
 | 105 => some ti105
 | 109 => some ti109
 | 117 => some ti117
 | 123 => some ti123
 | 125 => some ti125
 | 130 => some ti130
 | 131 => some ti131
 | 135 => some ti135
 | 137 => some ti137
 | 147 => some ti147
 | 150 => some ti150
 | 153 => some ti153
 | 154 => some ti154
 | 156 => some ti156
 | 179 => some ti179
 | 201 => some ti201
 | 212 => some ti212
 | 213 => some ti213
 | 215 => some ti215
 | 216 => some ti216
 | 220 => some ti220
 | 222 => some ti222
 | _ => none
theorem T_ok : ∀ t i, T t = some i → tiOf Proofs.Tryz.prog t = some i := by
 intro t i h
 unfold T at h
 split at h <;> first | (cases h; kernel_rfl) | (cases h; done)
def loopT (f k : Nat) : List Nat := match f, k with
 | 14, 5 => [2, 25, 26, 27]
 | 31, 5 => [0, 2, 3, 4, 5]
 | 15, 4 => [1, 2, 13, 14, 15]
 | 15, 12 => [1, 2, 30, 31, 32]
 | 33, 4 => [0, 2, 15, 16]
 | 19, 8 => [0, 2, 6, 7, 42, 43, 44]
 | 43, 5 => [0, 2, 6, 7, 19, 20, 21]
 | 34, 3 => [2, 3, 14, 15, 16]
 | 28, 19 => [4, 5, 8, 10, 11, 81, 82, 83]
 | 28, 25 => [4, 5, 8, 11, 14, 95, 96, 97]
 | 28, 28 => [4, 5, 8, 11, 14, 15, 16, 95, 96, 97, 105, 106, 107]
 | 28, 42 => [4, 5, 14, 162, 163, 164]
 | 28, 48 => [4, 5, 14, 175, 176, 177]
 | 61, 6 => [1, 2, 18, 19, 20]
 | 61, 14 => [1, 2, 78, 79, 80]
 | 76, 3 => [2, 3, 6, 7, 8]
 | 62, 4 => [2, 3, 4, 5, 6, 7, 8, 39, 40, 41]
 | 62, 9 => [2, 3, 4, 5, 6, 7, 8, 59, 60, 61]
 | 62, 16 => [2, 3, 4, 5, 6, 7, 8, 13, 14]
 | 62, 21 => [2, 3, 4, 5, 6, 7, 8, 13, 14, 15, 16, 104, 105, 106]
 | 62, 26 => [2, 3, 4, 5, 6, 7, 8, 13, 14, 15, 16, 18, 104, 105, 106, 130, 131, 132]
 | 62, 33 => [2, 3, 4, 5, 6, 7, 8, 13, 14, 15, 16, 165, 166, 167]
 | 62, 39 => [2, 3, 4, 5, 6, 7, 8, 13, 14, 15, 16, 188, 189, 190]
 | 62, 51 => [3, 4, 5, 13, 226, 227, 228]
 | 62, 54 => [3, 4, 5, 13, 28, 226, 227, 228, 233, 234, 235]
 | 71, 10 => [1, 2, 4, 5, 7, 42, 43, 44]
 | 71, 15 => [1, 2, 4, 5, 7, 70, 71, 72]
 | 71, 24 => [4, 5, 14, 106, 107, 108]
 | 111, 8 => [1, 2, 3, 5, 30, 31, 32]
 | 111, 18 => [1, 2, 3, 8, 9, 10, 11, 58, 59]
 | 111, 26 => [1, 2, 3, 10, 11, 86, 87, 88]
 | 111, 33 => [2, 3, 10, 11, 126, 127, 128]
 | 155, 3 => [1, 2, 3, 6, 7, 17, 18, 19]
 | 155, 11 => [6, 7, 10, 11]
 | 6, 4 => [2, 9, 10, 11]
 | 20, 5 => [2, 27, 28, 29]
 | 20, 8 => [2, 6, 27, 28, 29, 33, 34, 35]
 | 44, 5 => [0, 2, 3, 4, 5]
 | 81, 18 => [0, 1, 4, 6, 7, 8]
 | 7, 4 => [2, 13, 14, 15]
 | 7, 11 => [2, 3, 4, 6, 7, 13, 14, 15]
 | 22, 4 => [4, 11, 12, 13]
 | 45, 4 => [0, 2, 3]
 | 23, 6 => [0, 2, 33, 34, 35]
 | 46, 5 => [0, 2, 28, 29, 30]
 | 5, 4 => [1, 2, 3, 6, 7, 27, 28, 29]
 | 5, 12 => [1, 2, 3, 6, 7, 44, 45, 46]
 | 5, 20 => [2, 3, 6, 7, 13, 59, 60, 61]
 | 5, 26 => [2, 3, 6, 7, 13, 14, 15, 59, 60, 61, 77, 78, 79]
 | 5, 29 => [2, 3, 6, 7, 13, 14, 15, 19, 59, 60, 61, 77, 78, 79, 83, 84, 85]
 | 17, 4 => [0, 1, 4, 12, 13]
 | 18, 3 => [2, 3, 7, 8, 9]
 | 16, 12 => [2, 4, 5, 11, 45, 46, 47]
 | _, _ => []
def condT (f k : Nat) : List Nat := match f, k with
 | 14, 24 => [2, 3]
 | 14, 28 => [2, 25, 26, 27]
 | 14, 46 => [2, 25, 26, 27]
 | 31, 10 => [0, 2, 3]
 | 31, 15 => [0, 2, 3, 4, 5]
 | 31, 28 => [0, 2, 3, 4, 5, 6, 7]
 | 69, 10 => [2, 3]
 | 15, 11 => [1, 2]
 | 15, 16 => [1, 2, 13, 14, 15]
 | 15, 21 => [1, 2, 13, 14, 15]
 | 15, 27 => [1, 2]
 | 15, 33 => [1, 2, 30, 31, 32]
 | 15, 39 => [1, 2, 30, 31, 32]
 | 15, 50 => [2]
 | 33, 13 => [0, 2]
 | 33, 17 => [0, 2, 15, 16]
 | 33, 49 => [0, 2, 15, 16]
 | 19, 24 => [0, 2, 4, 6, 7]
 | 19, 33 => [0, 2, 4, 6, 7]
 | 19, 45 => [0, 2, 6, 7, 42, 43, 44]
 | 19, 51 => [0, 2, 6, 7, 9, 42, 43, 44]
 | 42, 20 => [0, 4]
 | 43, 16 => [0, 2, 4, 6, 7]
 | 43, 22 => [0, 2, 6, 7, 19, 20, 21]
 | 43, 28 => [0, 2, 6, 7, 9, 19, 20, 21]
 | 34, 17 => [2, 3, 14, 15, 16]
 | 28, 31 => [2, 3, 4, 5]
 | 28, 38 => [2, 3, 4, 5]
 | 28, 48 => [2, 3, 4, 5]
 | 28, 58 => [4, 5, 8]
 | 28, 72 => [4, 5, 8, 10]
 | 28, 77 => [4, 5, 8, 10]
 | 28, 84 => [4, 5, 8, 10, 11, 81, 82, 83]
 | 28, 98 => [4, 5, 8, 11, 14, 95, 96, 97]
 | 28, 108 => [4, 5, 8, 11, 14, 15, 16, 95, 96, 97, 105, 106, 107]
 | 28, 118 => [4, 5, 8, 11, 14, 15, 16, 95, 96, 97, 105, 106, 107]
 | 28, 141 => [4, 5, 8, 11, 14, 95, 96, 97]
 | 28, 158 => [4, 5, 14]
 | 28, 165 => [4, 5, 14, 162, 163, 164]
 | 28, 170 => [4, 5, 14, 162, 163, 164]
 | 28, 178 => [4, 5, 14, 175, 176, 177]
 | 28, 183 => [4, 5, 14, 175, 176, 177]
 | 61, 10 => [1, 2]
 | 61, 15 => [1, 2]
 | 61, 21 => [1, 2, 18, 19, 20]
 | 61, 58 => [1, 2, 3, 4, 18, 19, 20]
 | 61, 73 => [1, 2, 18, 19, 20]
 | 61, 81 => [1, 2, 78, 79, 80]
 | 61, 97 => [1, 2, 5, 6, 78, 79, 80]
 | 61, 117 => [1, 2, 78, 79, 80]
 | 77, 11 => [0, 1, 4, 6]
 | 77, 12 => [4]
 | 77, 13 => [0, 1, 4]
 | 77, 16 => [0, 1, 4]
 | 77, 19 => [4]
 | 76, 9 => [2, 3, 6, 7, 8]
 | 76, 14 => [2, 3, 6, 7, 8]
 | 62, 42 => [2, 3, 4, 5, 6, 7, 8, 39, 40, 41]
 | 62, 62 => [2, 3, 4, 5, 6, 7, 8, 59, 60, 61]
 | 62, 88 => [2, 3, 4, 5, 6, 7, 8, 13, 14]
 | 62, 107 => [2, 3, 4, 5, 6, 7, 8, 13, 14, 15, 16, 104, 105, 106]
 | 62, 112 => [2, 3, 4, 5, 6, 7, 8, 13, 14, 15, 16, 18, 104, 105, 106]
 | 62, 133 => [2, 3, 4, 5, 6, 7, 8, 13, 14, 15, 16, 18, 104, 105, 106, 130, 131, 132]
 | 62, 140 => [2, 3, 4, 5, 6, 7, 8, 13, 14, 15, 16, 18, 104, 105, 106, 130, 131, 132]
 | 62, 168 => [2, 3, 4, 5, 6, 7, 8, 13, 14, 15, 16, 165, 166, 167]
 | 62, 173 => [2, 3, 4, 5, 6, 7, 8, 13, 14, 15, 16, 165, 166, 167]
 | 62, 191 => [2, 3, 4, 5, 6, 7, 8, 13, 14, 15, 16, 188, 189, 190]
 | 62, 203 => [2, 3, 4, 5, 6, 7, 8, 13, 14, 15, 16, 188, 189, 190]
 | 62, 223 => [2, 3, 4, 5, 6, 7, 8, 13, 14]
 | 62, 229 => [3, 4, 5, 13, 226, 227, 228]
 | 62, 236 => [3, 4, 5, 13, 28, 226, 227, 228, 233, 234, 235]
 | 62, 246 => [3, 4, 5, 13, 28, 226, 227, 228, 233, 234, 235]
 | 35, 18 => [2, 3, 4]
 | 71, 24 => [1, 2, 4, 5]
 | 71, 31 => [1, 2, 4, 5]
 | 71, 35 => [1, 2, 4, 5]
 | 71, 45 => [1, 2, 4, 5, 7, 42, 43, 44]
 | 71, 73 => [1, 2, 4, 5, 7, 70, 71, 72]
 | 71, 104 => [4, 5, 12]
 | 71, 109 => [4, 5, 14, 106, 107, 108]
 | 111, 21 => [1, 2, 3]
 | 111, 26 => [1, 2, 3]
 | 111, 33 => [1, 2, 3, 5, 30, 31, 32]
 | 111, 51 => [1, 2, 3, 8, 9]
 | 111, 60 => [1, 2, 3, 8, 9, 10, 11, 58, 59]
 | 111, 74 => [1, 2, 3, 8, 9, 10, 11, 58, 59]
 | 111, 89 => [1, 2, 3, 10, 11, 86, 87, 88]
 | 111, 105 => [1, 2, 3, 10, 11, 86, 87, 88]
 | 111, 129 => [2, 3, 10, 11, 126, 127, 128]
 | 111, 137 => [2, 3, 10, 11, 126, 127, 128]
 | 155, 20 => [1, 2, 3, 6, 7, 17, 18, 19]
 | 155, 23 => [1, 2, 3, 6, 7, 17, 18, 19]
 | 155, 58 => [6, 7, 10, 11]
 | 155, 73 => [6, 7, 10, 11, 12]
 | 6, 7 => [0, 2]
 | 6, 12 => [2, 9, 10, 11]
 | 6, 18 => [2, 9, 10, 11]
 | 20, 26 => [2, 3]
 | 20, 30 => [2, 27, 28, 29]
 | 20, 36 => [2, 6, 27, 28, 29, 33, 34, 35]
 | 20, 41 => [2, 6, 27, 28, 29, 33, 34, 35]
 | 20, 44 => [2, 27, 28, 29]
 | 44, 9 => [0, 2, 3]
 | 44, 14 => [0, 2, 3, 4, 5]
 | 44, 19 => [0, 2, 3, 4, 5, 6]
 | 81, 16 => [0, 1, 4, 6, 7]
 | 81, 20 => [0, 1, 4, 6, 7]
 | 81, 24 => [0, 1, 4, 6, 7]
 | 81, 28 => [0, 1, 4, 6, 7]
 | 81, 34 => [0, 1, 4, 6, 7]
 | 81, 37 => [0, 1, 4, 6, 7, 8]
 | 81, 51 => [0, 1, 4, 6, 7, 8, 9]
 | 81, 65 => [4, 7]
 | 82, 4 => [0, 2]
 | 82, 6 => [0, 2]
 | 82, 8 => [2]
 | 7, 11 => [0, 2]
 | 7, 16 => [2, 13, 14, 15]
 | 7, 24 => [2, 3, 4, 13, 14, 15]
 | 7, 42 => [2, 3, 4, 7, 13, 14, 15]
 | 7, 54 => [2, 3, 4, 13, 14, 15]
 | 7, 66 => [2, 13, 14, 15]
 | 22, 10 => [0, 4]
 | 22, 14 => [4, 11, 12, 13]
 | 22, 19 => [4, 11, 12, 13]
 | 45, 22 => [0, 2]
 | 45, 26 => [0, 2, 3]
 | 45, 54 => [0, 2, 3]
 | 23, 23 => [0, 2, 4]
 | 23, 36 => [0, 2, 33, 34, 35]
 | 23, 42 => [0, 2, 7, 33, 34, 35]
 | 46, 23 => [0, 2, 4]
 | 46, 31 => [0, 2, 28, 29, 30]
 | 46, 37 => [0, 2, 7, 28, 29, 30]
 | 3, 9 => [0, 1, 4]
 | 3, 21 => [4, 5, 6, 7]
 | 5, 25 => [1, 2, 3, 6, 7]
 | 5, 30 => [1, 2, 3, 6, 7, 27, 28, 29]
 | 5, 36 => [1, 2, 3, 6, 7, 27, 28, 29]
 | 5, 42 => [1, 2, 3, 6, 7]
 | 5, 47 => [1, 2, 3, 6, 7, 44, 45, 46]
 | 5, 54 => [1, 2, 3, 6, 7, 44, 45, 46]
 | 5, 62 => [2, 3, 6, 7, 13, 59, 60, 61]
 | 5, 74 => [2, 3, 6, 7, 13, 14, 15, 16, 59, 60, 61]
 | 5, 80 => [2, 3, 6, 7, 13, 14, 15, 59, 60, 61, 77, 78, 79]
 | 5, 86 => [2, 3, 6, 7, 13, 14, 15, 19, 59, 60, 61, 77, 78, 79, 83, 84, 85]
 | 5, 94 => [2, 3, 6, 7, 13, 14, 15, 19, 21, 59, 60, 61, 77, 78, 79, 83, 84, 85]
 | 5, 97 => [2, 3, 6, 7, 13, 14, 15, 19, 21, 59, 60, 61, 77, 78, 79, 83, 84, 85]
 | 5, 102 => [2, 3, 6, 7, 13, 14, 15, 19, 21, 59, 60, 61, 77, 78, 79, 83, 84, 85]
 | 17, 10 => [0, 1, 4]
 | 17, 14 => [0, 1, 4, 12, 13]
 | 17, 24 => [0, 1, 4, 12, 13]
 | 18, 10 => [2, 3, 7, 8, 9]
 | 41, 4 => [0, 2]
 | 16, 17 => [1, 2, 4, 5]
 | 16, 34 => [2, 4, 5, 8, 9]
 | 16, 43 => [2, 4, 5, 10]
 | 16, 48 => [2, 4, 5, 11, 45, 46, 47]
 | 16, 57 => [2, 4, 5, 11, 45, 46, 47]
 | _, _ => []
def blkT (f k : Nat) : List Nat := match f, k with
 | 14, 0 => [2]
 | 14, 1 => [2, 25, 26, 27]
 | 31, 0 => [2, 3, 4]
 | 31, 1 => [0, 2, 3, 4, 5]
 | 15, 0 => [1, 2]
 | 15, 1 => [1, 2, 13, 14, 15]
 | 15, 2 => [1, 2]
 | 15, 3 => [1, 2, 30, 31, 32]
 | 33, 0 => [2]
 | 33, 1 => [0, 2, 15, 16]
 | 19, 0 => [6, 7]
 | 19, 1 => [0, 2, 6, 7, 42, 43, 44]
 | 43, 0 => [6, 7]
 | 43, 1 => [0, 2, 6, 7, 19, 20, 21]
 | 34, 0 => [2, 3]
 | 34, 1 => [2, 3, 14, 15, 16]
 | 28, 0 => [4, 5, 8, 10, 11]
 | 28, 1 => [4, 5, 8, 10, 11, 81, 82, 83]
 | 28, 2 => [4, 5, 14]
 | 28, 3 => [4, 5, 8, 11, 14, 95, 96, 97]
 | 28, 4 => [4, 5, 8, 11, 14, 15, 16, 95, 96, 97]
 | 28, 5 => [4, 5, 8, 11, 14, 15, 16, 95, 96, 97, 105, 106, 107]
 | 28, 6 => [4, 5, 14]
 | 28, 7 => [4, 5, 14, 162, 163, 164]
 | 28, 8 => [4, 5, 14]
 | 28, 9 => [4, 5, 14, 175, 176, 177]
 | 61, 0 => [1, 2]
 | 61, 1 => [1, 2, 18, 19, 20]
 | 61, 2 => [2]
 | 61, 3 => [1, 2, 78, 79, 80]
 | 76, 0 => [2, 3]
 | 76, 1 => [2, 3, 6, 7, 8]
 | 62, 0 => [2, 3, 4, 5, 6, 7, 8]
 | 62, 1 => [2, 3, 4, 5, 6, 7, 8, 39, 40, 41]
 | 62, 2 => [2, 3, 4, 5, 6, 7, 8]
 | 62, 3 => [2, 3, 4, 5, 6, 7, 8, 59, 60, 61]
 | 62, 4 => [2, 3, 4, 5, 13]
 | 62, 5 => [2, 3, 4, 5, 6, 7, 8, 13, 14]
 | 62, 6 => [2, 3, 4, 5, 6, 7, 8, 13, 14, 15, 16]
 | 62, 7 => [2, 3, 4, 5, 6, 7, 8, 13, 14, 15, 16, 104, 105, 106]
 | 62, 8 => [2, 3, 4, 5, 6, 7, 8, 13, 14, 15, 16, 104, 105, 106]
 | 62, 9 => [2, 3, 4, 5, 6, 7, 8, 13, 14, 15, 16, 18, 104, 105, 106, 130, 131, 132]
 | 62, 10 => [2, 3, 4, 5, 6, 7, 8, 13, 14, 15, 16]
 | 62, 11 => [2, 3, 4, 5, 6, 7, 8, 13, 14, 15, 16, 165, 166, 167]
 | 62, 12 => [2, 3, 4, 5, 6, 7, 8, 13, 14, 15, 16]
 | 62, 13 => [2, 3, 4, 5, 6, 7, 8, 13, 14, 15, 16, 188, 189, 190]
 | 62, 14 => [4, 5, 13]
 | 62, 15 => [3, 4, 5, 13, 226, 227, 228]
 | 62, 16 => [3, 4, 5, 13, 226, 227, 228]
 | 62, 17 => [3, 4, 5, 13, 28, 226, 227, 228, 233, 234, 235]
 | 71, 0 => [1, 2, 4, 5, 7]
 | 71, 1 => [1, 2, 4, 5, 7, 42, 43, 44]
 | 71, 2 => [1, 2, 4, 5, 7]
 | 71, 3 => [1, 2, 4, 5, 7, 70, 71, 72]
 | 71, 4 => [4, 5, 14]
 | 71, 5 => [4, 5, 14, 106, 107, 108]
 | 111, 0 => [1, 2, 3, 5]
 | 111, 1 => [1, 2, 3, 5, 30, 31, 32]
 | 111, 2 => [1, 2, 3, 10, 11]
 | 111, 3 => [1, 2, 3, 8, 9, 10, 11, 58, 59]
 | 111, 4 => [1, 2, 3, 10, 11]
 | 111, 5 => [1, 2, 3, 10, 11, 86, 87, 88]
 | 111, 6 => [2, 3, 11]
 | 111, 7 => [2, 3, 10, 11, 126, 127, 128]
 | 155, 0 => [1, 3, 6, 7]
 | 155, 1 => [1, 2, 3, 6, 7, 17, 18, 19]
 | 155, 2 => [6, 10]
 | 155, 3 => [6, 7, 10, 11]
 | 6, 0 => [2]
 | 6, 1 => [2, 9, 10, 11]
 | 20, 0 => [2]
 | 20, 1 => [2, 27, 28, 29]
 | 20, 2 => [2, 6, 27, 28, 29]
 | 20, 3 => [2, 6, 27, 28, 29, 33, 34, 35]
 | 44, 0 => [2, 3, 4]
 | 44, 1 => [0, 2, 3, 4, 5]
 | 81, 0 => [4, 6, 7]
 | 81, 1 => [0, 1, 4, 6, 7, 8]
 | 7, 0 => [2]
 | 7, 1 => [2, 13, 14, 15]
 | 7, 2 => [2, 3, 4, 6, 13, 14, 15]
 | 7, 3 => [2, 3, 4, 6, 7, 13, 14, 15]
 | 22, 0 => [4]
 | 22, 1 => [4, 11, 12, 13]
 | 45, 0 => [2]
 | 45, 1 => [0, 2, 3]
 | 23, 1 => [0, 2, 33, 34, 35]
 | 46, 1 => [0, 2, 28, 29, 30]
 | 5, 0 => [1, 2, 3, 6, 7]
 | 5, 1 => [1, 2, 3, 6, 7, 27, 28, 29]
 | 5, 2 => [1, 2, 3, 6, 7]
 | 5, 3 => [1, 2, 3, 6, 7, 44, 45, 46]
 | 5, 4 => [6, 7, 13]
 | 5, 5 => [2, 3, 6, 7, 13, 59, 60, 61]
 | 5, 6 => [2, 3, 6, 7, 13, 59, 60, 61]
 | 5, 7 => [2, 3, 6, 7, 13, 14, 15, 59, 60, 61, 77, 78, 79]
 | 5, 8 => [2, 3, 6, 7, 13, 14, 15, 59, 60, 61, 77, 78, 79]
 | 5, 9 => [2, 3, 6, 7, 13, 14, 15, 19, 59, 60, 61, 77, 78, 79, 83, 84, 85]
 | 17, 0 => [4]
 | 17, 1 => [0, 1, 4, 12, 13]
 | 18, 0 => [2, 3]
 | 18, 1 => [2, 3, 7, 8, 9]
 | 16, 0 => [4, 5, 11]
 | 16, 1 => [2, 4, 5, 11, 45, 46, 47]
 | _, _ => []
def accT (f : Nat) : List Nat := match f with
 | 5 => [13]
 | 16 => [11]
 | 19 => [100705]
 | 31 => [4]
 | 34 => [100301]
 | 43 => [100701]
 | 44 => [4]
 | 62 => [14, 16]
 | 71 => [14]
 | 111 => [5]
 | 155 => [11]
 | _ => []
def ownT : List Nat := [215, 222, 221, 119, 205, 166, 150, 176, 199, 219, 151, 217, 196, 208, 210, 220, 168, 153, 138, 183, 211, 74, 223, 122, 165, 123, 120, 146, 213, 149, 171, 185, 188, 206, 170, 58, 39, 84, 187, 181, 173, 207, 198, 227, 225, 195, 228, 152, 214, 163, 182, 212, 118, 200, 197, 189, 167, 102, 203, 121, 136, 172, 174, 148, 216, 184, 147, 226, 124, 175, 209, 218, 204, 105, 131, 60, 125, 169, 177, 180, 85, 186, 224, 142, 139, 190, 98, 154, 201, 202, 19, 23, 42, 43, 46]
def rowT : List Nat := [215, 222, 221, 119, 205, 166, 150, 176, 199, 219, 151, 217, 196, 208, 210, 220, 168, 153, 138, 183, 211, 74, 223, 122, 165, 123, 120, 146, 213, 149, 171, 185, 188, 206, 170, 58, 39, 84, 187, 181, 173, 207, 198, 227, 225, 195, 228, 152, 214, 163, 182, 212, 118, 200, 197, 189, 167, 102, 203, 121, 136, 172, 174, 148, 216, 184, 147, 226, 124, 175, 209, 218, 204, 105, 131, 60, 125, 169, 177, 180, 85, 186, 224, 142, 139, 190, 98, 154, 201, 202]
def E0 : Env := { T := T, pureF := fun f => !ownT.contains f, keep := fun f => ⟨loopT f, condT f, blkT f⟩, acc := accT, rowF := fun f => rowT.contains f, rowM := false, ora := fun _ => none, oraD := fun _ => none, lend := fun f => if [19, 23, 42, 43, 46].contains f then some {} else if [].contains f then some ⟨[0], some 0, true⟩ else none }
theorem names_ok : ∀ (f : Nat) fn, Proofs.Tryz.prog.funcs[f]? = some fn → (fn.name == "runtime.NumGoroutine") = false := by
 intro f fn h
 have hall : (Proofs.Tryz.prog.funcs.toList.all fun fn => !(fn.name == "runtime.NumGoroutine")) = true := by kernel_rfl
 have := List.all_eq_true.1 hall fn (List.mem_of_getElem? (by simpa using h))
 simpa using this
theorem good0 {DR : Prop} : Good DR Proofs.Tryz.prog E0 := ⟨by kernel_rfl, T_ok, names_ok, (fun f F h => by cases h), (fun f F h => by cases h)⟩
def f41n (m : Nat) (a0 : (List (Cc 2))) : Option (List (Cc 2)) :=
 bnd (app 16 [] a0) fun v1 =>
 some v1
noncomputable abbrev X41n (n : Nat) : Cx := cxOf Proofs.Tryz.prog E0 41 n
theorem ok41n (m : Nat) (a0 : (List (Cc 2))) (o : (List (Cc 2))) (h : f41n m a0 = some o) (n : Nat) (hn : m + 1 ≤ n) : Fn Proofs.Tryz.prog E0 n 41 [.v (.sl .non (List.map (cc 2) a0))] ((eL (cc 2)) o) := by
 obtain ⟨n, rfl⟩ : ∃ q, n = q + 1 := ⟨n - 1, by omega⟩
 unfold f41n at h
 refine Fn.of (by kernel_rfl) (by kernel_rfl) (by kernel_rfl) ⟨(.v (.sl .non (List.map (cc 2) a0))) :: u7 [], []⟩ (by kernel_rfl) ?_
 refine Wp.sq ?_
 refine Wp.rg ?_
 refine Ops.sg 1 1 ?_
 refine Ops.dn ?_
 refine seqQ.n ?_
 refine Wp.sq ?_
 refine Wp.sq ?_
 refine Wp.rg ?_
 refine Ops.sg 1 1 ?_
 refine Ops.on 2 (fun h0 e0 => (nil_non (T := T) h0 60 117 .non (cc 2) a0 rfl (by kernel_rfl))) ?_
 refine Ops.dn ?_
 refine seqQ.n ?_
 refine Wp.condF [0, 2] 0 (by kernel_rfl) ?_
 refine Wp.sk ?_
 refine sqQ.n' ?_
 refine seqQ.n ?_
 refine Wp.sq ?_
 refine Wp.rg ?_
 refine Ops.sg 2 2 ?_
 obtain ⟨v1, ev1, h⟩ := bnd_some h
 refine Ops.on 3 (fun h0 e0 => (app_n (T := T) (g := .nonfull) h0 60 117 2 ti117 .non (cc 2) a0 v1 ev1 (by kernel_rfl) (by kernel_rfl) (by kernel_rfl) (by kernel_rfl) (fun x => x.2))) ?_
 refine Ops.sg 1 4 ?_
 refine Ops.dn ?_
 refine seqQ.n ?_
 refine Wp.ret (by kernel_rfl) ?_
 exact fnQ.r' (X41n n) (fun z => ((eL (cc 2)) z)) h (RetOk.mk' (appF .nonfull 0 (List.map (cc 2) v1)) (by kernel_rfl) (appD_frz _ _ _ _))
theorem clone41 : Is Proofs.Tryz.prog 41 ∧ ∀ vs r, cloneF 2 16 vs = some r → ∀ S w us, RelL S [] w us (vs.map .v) → (∀ b i, S b i → b < w.heap.size) → Glob S w →
  Calls Proofs.Tryz.prog 41 us w fun e w' => ∃ v S', e = .returned v ∧ Ext False S [] w S' [] w' ∧ HInv S' [] w' [] ∧ RelV S' w' v r := by
 refine clone_sound (good0 (DR := False)) ⟨.v (.sl .nil []), [], by kernel_rfl, by kernel_rfl⟩ fun es h1 h2 h3 => ?_
 obtain ⟨l, rfl⟩ := sub_list es h1
 have h4 : f41n 1 l = some l := by
  unfold f41n app
  rw [List.length_map] at h2 h3
  simp only [List.length_nil, Nat.zero_add, List.nil_append]
  rw [if_pos ⟨h2, h3⟩]
  rfl
 exact ok41n 1 l l h4 3 (by omega)
def oraT1 (f : Nat) : Option (List V → Option V) := match f with
 | 41 => some (cloneF 2 16)
 | 69 => some decodeF
 | 32 => some ixbyteF
 | _ => none
def E1 : Env := { E0 with ora := oraT1 }
def oraT (f : Nat) : Option (List V → Option V) := match f with
 | f => oraT1 f
def E : Env := { E0 with ora := oraT }
theorem tabs_of_glob {S : Nat → Nat → Prop} {w : World} (h : Glob S w) : Lib.Utf8Tabs 0 1 w := by
 refine ⟨fun c hc => ?_, fun i hi => ?_⟩
 ·obtain ⟨_, v, h2, h3⟩ := h.1 0 firstTab rfl c (.int .u8 (Lib.firstT c)) (by simp [firstTab, hc])
  cases h3
  exact h2
 ·obtain ⟨_, v, h2, h3⟩ := h.1 1 acceptTab rfl (2 * i) (.int .u8 (Lib.accLo i)) (by simp [acceptTab, show 2 * i < 32 by omega, show 2 * i / 2 = i by omega])
  cases h3
  obtain ⟨_, v, g2, g3⟩ := h.1 1 acceptTab rfl (2 * i + 1) (.int .u8 (Lib.accHi i)) (by simp [acceptTab, show 2 * i + 1 < 32 by omega, show (2 * i + 1) / 2 = i by omega])
  cases g3
  exact ⟨h2, g2⟩
theorem is69 : Is Proofs.Tryz.prog 69 := ⟨Proofs.Tryz.f69, Proofs.Tryz.func69, by kernel_rfl, by kernel_rfl⟩
theorem ora69 : OraOk False Proofs.Tryz.prog 69 decodeF := decode_sound (fun h => h) is69 fun S w hg => ⟨0, 1, tabs_of_glob hg, fun s => Proofs.Tryz.utf8_DecodeRuneInString s w (tabs_of_glob hg)⟩
theorem is32 : Is Proofs.Tryz.prog 32 := ⟨Proofs.Tryz.f32, Proofs.Tryz.func32, by kernel_rfl, by kernel_rfl⟩
theorem ora32 : OraOk False Proofs.Tryz.prog 32 ixbyteF := ixbyte_sound is32 fun s c w => Proofs.Tryz.strings_IndexByte s c w
theorem ora1_ok : OSound False Proofs.Tryz.prog E1 := by
 intro f F h
 have h : oraT1 f = some F := h
 unfold oraT1 at h
 split at h <;> first | (cases h; done) | skip
 ·cases h; exact clone41
 ·cases h; exact ora69
 ·cases h; exact ora32
theorem ora_ok : OSound False Proofs.Tryz.prog E := by
 intro f F h
 have h : oraT f = some F := h
 unfold oraT at h
 exact ora1_ok f F h
theorem good : Good False Proofs.Tryz.prog E := ⟨(good0 (DR := False)).mixed, T_ok, names_ok, ora_ok, (fun f F h => by cases h)⟩
structure S26 where
 fCode : Int
 fIndex : Int
def e26 : S26 → V := fun x => (.agg [(vI x.fCode), (vI x.fIndex)])
structure S134 where
 fFrom : Int
 fTo : Int
 fIn : Int
 fOut : Int
 fWeight : Int
def e134 : S134 → V := fun x => (.agg [(vI x.fFrom), (vI x.fTo), (vI x.fIn), (vI x.fOut), (vI x.fWeight)])
structure S136 where
 fState : Int
 fWeight : Int
def e136 : S136 → V := fun x => (.agg [(vI x.fState), (vI x.fWeight)])
structure S32 where
 fStates : Int
 fArcs : (List S134)
 fFinals : (List S136)
def e32 : S32 → V := fun x => (.agg [(vI x.fStates), (vP e134 x.fArcs), (vP e136 x.fFinals)])
structure S34 where
 fWords : S32
 fTags : (List ByteArray)
def e34 : S34 → V := fun x => (.agg [(vI x.fWords.fStates), (vP e134 x.fWords.fArcs), (vP e136 x.fWords.fFinals), (vP eS x.fTags)])
structure S116 where
 fFeat : Int
 fTo : Int
def e116 : S116 → V := fun x => (.agg [(vI x.fFeat), (vI x.fTo)])
structure S61 where
 fType : Int
 fLinks : (List S116)
def e61 : S61 → V := fun x => (.agg [(vI x.fType), (vP e116 x.fLinks)])
structure S48 where
 fNodes : (List S61)
def e48 : S48 → V := fun x => (.agg [(vP e61 x.fNodes)])
inductive IsP51 : V → Prop where
 | mk (x0 : ByteArray) (x1 : List V) (h1 : ∀ v ∈ x1, IsP51 v) : IsP51 (.agg [(.str x0), .sl .plain x1])
def P51 : Type := {v : V // IsP51 v}
structure S51 where
 fBase : ByteArray
 fArgs : (List P51)
def ep51 : P51 → V := Subtype.val
def e51 : S51 → V := fun x => (.agg [(.str x.fBase), (vP ep51 x.fArgs)])
theorem ep51_all (l : List P51) : ∀ v ∈ l.map ep51, IsP51 v := fun v hv => by
 obtain ⟨p, _, rfl⟩ := List.mem_map.1 hv
 exact p.2
def P51.con (s : S51) : P51 := ⟨e51 s, .mk s.fBase _ (ep51_all s.fArgs)⟩
theorem ep51_list : ∀ (l : List V), (∀ v ∈ l, IsP51 v) → ∃ q : List P51, q.map ep51 = l
 | [], _ => ⟨[], rfl⟩
 | v :: r, h => by
  obtain ⟨q, hq⟩ := ep51_list r fun u hu => h u (List.mem_cons_of_mem _ hu)
  exact ⟨(show P51 from ⟨v, h v List.mem_cons_self⟩) :: q, congrArg (v :: ·) hq⟩
theorem P51.exists_vw (p : P51) : ∃ s : S51, e51 s = p.1 := by
 obtain ⟨v, hv⟩ := p
 cases hv with
 | mk x0 x1 h1 =>
  obtain ⟨q1, rfl⟩ := ep51_list x1 h1
  exact ⟨⟨x0, q1⟩, rfl⟩
noncomputable def P51.vw (p : P51) : S51 := Classical.choose p.exists_vw
theorem ep51_vw (p : P51) : ep51 p = e51 p.vw := (Classical.choose_spec p.exists_vw).symm
theorem ep51_len (p : P51) : (ep51 p).cells.length = 2 := by rw [ep51_vw]; rfl
theorem ixb51 {r : Option (D × List AObj)} {p : P51} {h : List AObj} (e : r = some (.vptr (ep51 p).cells, h)) : r = some (.vptr (e51 p.vw).cells, h) := by rw [ep51_vw] at e; exact e
inductive IsP54 : V → Prop where
 | mk (x0 : Int) (x1 : ByteArray) (x2 : Int) (x3 : S51) (x4 : List V) (h4 : ∀ v ∈ x4, IsP54 v) : IsP54 (.agg [(vI x0), (.str x1), (vI x2), (.str x3.fBase), (vP ep51 x3.fArgs), .sl .plain x4])
def P54 : Type := {v : V // IsP54 v}
structure S54 where
 fKind : Int
 fName : ByteArray
 fIndex : Int
 fType : S51
 fArgs : (List P54)
def ep54 : P54 → V := Subtype.val
def e54 : S54 → V := fun x => (.agg [(vI x.fKind), (.str x.fName), (vI x.fIndex), (.str x.fType.fBase), (vP ep51 x.fType.fArgs), (vP ep54 x.fArgs)])
theorem ep54_all (l : List P54) : ∀ v ∈ l.map ep54, IsP54 v := fun v hv => by
 obtain ⟨p, _, rfl⟩ := List.mem_map.1 hv
 exact p.2
def P54.con (s : S54) : P54 := ⟨e54 s, .mk s.fKind s.fName s.fIndex s.fType _ (ep54_all s.fArgs)⟩
theorem ep54_list : ∀ (l : List V), (∀ v ∈ l, IsP54 v) → ∃ q : List P54, q.map ep54 = l
 | [], _ => ⟨[], rfl⟩
 | v :: r, h => by
  obtain ⟨q, hq⟩ := ep54_list r fun u hu => h u (List.mem_cons_of_mem _ hu)
  exact ⟨(show P54 from ⟨v, h v List.mem_cons_self⟩) :: q, congrArg (v :: ·) hq⟩
theorem P54.exists_vw (p : P54) : ∃ s : S54, e54 s = p.1 := by
 obtain ⟨v, hv⟩ := p
 cases hv with
 | mk x0 x1 x2 x3 x4 h4 =>
  obtain ⟨q4, rfl⟩ := ep54_list x4 h4
  exact ⟨⟨x0, x1, x2, x3, q4⟩, rfl⟩
noncomputable def P54.vw (p : P54) : S54 := Classical.choose p.exists_vw
theorem ep54_vw (p : P54) : ep54 p = e54 p.vw := (Classical.choose_spec p.exists_vw).symm
theorem ep54_len (p : P54) : (ep54 p).cells.length = 6 := by rw [ep54_vw]; rfl
theorem ixb54 {r : Option (D × List AObj)} {p : P54} {h : List AObj} (e : r = some (.vptr (ep54 p).cells, h)) : r = some (.vptr (e54 p.vw).cells, h) := by rw [ep54_vw] at e; exact e
structure S56 where
 fTags : (List ByteArray)
 fGraph : S48
 fMeaning : S54
def e56 : S56 → V := fun x => (.agg [(vP eS x.fTags), (vP e61 x.fGraph.fNodes), (vI x.fMeaning.fKind), (.str x.fMeaning.fName), (vI x.fMeaning.fIndex), (.str x.fMeaning.fType.fBase), (vP ep51 x.fMeaning.fType.fArgs), (vP ep54 x.fMeaning.fArgs)])
structure S63 where
 fWord : ByteArray
 fGraph : S48
 fWeight : Int
 fMeaning : S54
def e63 : S63 → V := fun x => (.agg [(.str x.fWord), (vP e61 x.fGraph.fNodes), (vI x.fWeight), (vI x.fMeaning.fKind), (.str x.fMeaning.fName), (vI x.fMeaning.fIndex), (.str x.fMeaning.fType.fBase), (vP ep51 x.fMeaning.fType.fArgs), (vP ep54 x.fMeaning.fArgs)])
structure S71 where
 fBase : ByteArray
 fTags : (List ByteArray)
 fWeight : Int
def e71 : S71 → V := fun x => (.agg [(.str x.fBase), (vP eS x.fTags), (vI x.fWeight)])
structure S75 where
 fBase : ByteArray
 fNodes : Int
 fOver : Bool
def c75 : S75 → List D := fun x => [(.v (.str x.fBase)), (dI x.fNodes), (dB x.fOver)]
structure S81 where
 fNodes : Int
 fOver : Bool
def c81 : S81 → List D := fun x => [(dI x.fNodes), (dB x.fOver)]
structure S108 where
 fIn : (List Int)
 fOut : (List Int)
 fWeight : Int
def e108 : S108 → V := fun x => (.agg [(vP eI x.fIn), (vP eI x.fOut), (vI x.fWeight)])
end Go.Abs
