import Derived.Test.YthjhdnonlkooiaaDoorAbsW
import Derived.Test.YthjhdnonlkooiaaDoorAbsL
import Derived.Test.YthjhdnonlkooiaaDoorAbsN
import Derived.Test.YthjhdnonlkooiaaDoorAbsU
import Derived.Test.YthjhdnonlkooiaaDoorShelf
import Derived.Test.YthjhdnonlkooiaaDoorAbsM
import Derived.Test.YthjhdnonlkooiaaDoorProg
namespace Go.Abs
set_option linter.unusedVariables false
set_option maxRecDepth 100000
def ti3 : TI := ⟨.int .i64, 1, 8, .int .i64 (0), true⟩
def ti4 : TI := ⟨.bool, 1, 1, .bool false, true⟩
def ti5 : TI := ⟨.int .u8, 1, 1, .int .u8 (0), true⟩
def ti9 : TI := ⟨.str, 1, 16, .str ByteArray.empty, true⟩
def ti21 : TI := ⟨.int .i32, 1, 4, .int .i32 (0), true⟩
def ti22 : TI := ⟨.slice 68, 1, 24, .sl .nil [], true⟩
def ti24 : TI := ⟨.struct [(0, 9), (1, 22)], 2, 40, .agg [.str ByteArray.empty, .sl .nil []], true⟩
def ti26 : TI := ⟨.slice 42, 1, 24, .sl .nil [], true⟩
def ti28 : TI := ⟨.struct [(0, 3), (1, 3)], 2, 16, .agg [.int .i64 (0), .int .i64 (0)], true⟩
def ti36 : TI := ⟨.slice 9, 1, 24, .sl .nil [], true⟩
def ti42 : TI := ⟨.struct [(0, 36), (1, 9)], 2, 40, .agg [.sl .nil [], .str ByteArray.empty], true⟩
def ti43 : TI := ⟨.slice 24, 1, 24, .sl .nil [], true⟩
def ti44 : TI := ⟨.slice 3, 1, 24, .sl .nil [], true⟩
def ti68 : TI := ⟨.struct [(0, 36), (1, 9), (2, 9)], 3, 56, .agg [.sl .nil [], .str ByteArray.empty, .str ByteArray.empty], true⟩
def ti108 : TI := ⟨.int .u64, 1, 8, .int .u64 (0), true⟩
def ti121 : TI := ⟨.int .i64, 1, 8, .int .i64 (0), true⟩
def ti129 : TI := ⟨.int .u32, 1, 4, .int .u32 (0), true⟩
def ti131 : TI := ⟨.int .u64, 1, 8, .int .u64 (0), true⟩
def ti138 : TI := ⟨.int .u64, 1, 8, .int .u64 (0), true⟩
def T (t : Nat) : Option TI := match t with
  | 3 => some ti3
  | 4 => some ti4
  | 5 => some ti5
  | 9 => some ti9
  | 21 => some ti21
  | 22 => some ti22
  | 24 => some ti24
  | 26 => some ti26
  | 28 => some ti28
  | 36 => some ti36
  | 42 => some ti42
  | 43 => some ti43
  | 44 => some ti44
  | 68 => some ti68
  | 108 => some ti108
  | 121 => some ti121
  | 129 => some ti129
  | 131 => some ti131
  | 138 => some ti138
  | _ => none
theorem T_ok : ∀ t i, T t = some i → tiOf Proofs.Tryd.prog t = some i := by
  intro t i h
  unfold T at h
  split at h <;> first | (cases h; kernel_rfl) | (cases h; done)
def loopT (f k : Nat) : List Nat := match f, k with
  | 8, 9 => [6, 9, 11, 41, 42, 43]
  | 23, 4 => [0, 3, 4, 5, 22, 23, 24]
  | 23, 13 => [0, 3, 4, 5, 48, 49, 50]
  | 23, 23 => [3, 4, 5, 12, 70, 71, 72]
  | 23, 26 => [3, 4, 5, 12, 13, 14, 70, 71, 72, 83, 84, 85]
  | 15, 6 => [2, 23, 24, 25]
  | 39, 4 => [0, 2, 15, 16]
  | 40, 4 => [2, 8, 9, 10]
  | 32, 5 => [2, 25, 26, 27]
  | 60, 5 => [0, 2, 3, 4, 5]
  | 43, 3 => [1, 2, 6, 7, 13, 14, 15]
  | 84, 2 => [2, 4]
  | 46, 4 => [0, 1, 4, 12, 13]
  | 34, 3 => [1, 4, 5, 11, 12, 13]
  | 69, 2 => [0, 1, 4, 7, 8]
  | 86, 2 => [0, 1, 2, 3, 8, 9]
  | 103, 1 => [0, 1, 2, 6]
  | 103, 4 => [0, 1, 2, 6, 7]
  | 104, 4 => [0, 6, 7, 8, 9]
  | 104, 8 => [0, 6, 7, 10]
  | 118, 1 => [0, 2, 3, 8]
  | 105, 5 => [0, 1, 6, 7, 8, 9]
  | 107, 2 => [0, 6, 7]
  | 108, 3 => [0, 1, 2, 6, 7, 8]
  | 108, 5 => [0, 1, 2, 6, 7, 8]
  | 108, 14 => [0, 1, 2, 6, 7, 8, 9]
  | 108, 20 => [0, 1, 2, 6, 7, 8, 10]
  | 110, 3 => [0, 1, 8, 9, 10]
  | 110, 5 => [0, 1, 8, 9, 10]
  | 111, 3 => [0, 1, 8, 9, 10, 11]
  | 111, 5 => [0, 1, 8, 9, 10, 11]
  | 111, 13 => [0, 1, 8, 9, 10, 11]
  | 111, 15 => [0, 1, 8, 9, 10, 11]
  | 68, 4 => [0, 2, 3]
  | 68, 9 => [0, 2, 3, 4, 5]
  | 25, 4 => [0, 1, 4, 12, 13]
  | _, _ => []
def condT (f k : Nat) : List Nat := match f, k with
  | 8, 15 => [0, 1, 5, 6]
  | 8, 40 => [6, 7, 9]
  | 8, 44 => [6, 9, 11, 41, 42, 43]
  | 8, 58 => [6, 9, 11, 41, 42, 43]
  | 23, 20 => [0, 3, 4, 5]
  | 23, 25 => [0, 3, 4, 5, 22, 23, 24]
  | 23, 33 => [0, 3, 4, 5, 22, 23, 24]
  | 23, 46 => [0, 3, 4, 5]
  | 23, 51 => [0, 3, 4, 5, 48, 49, 50]
  | 23, 59 => [0, 3, 4, 5, 9, 10, 48, 49, 50]
  | 23, 66 => [0, 3, 4, 5, 48, 49, 50]
  | 23, 73 => [3, 4, 5, 12, 70, 71, 72]
  | 23, 86 => [3, 4, 5, 12, 13, 14, 70, 71, 72, 83, 84, 85]
  | 23, 95 => [3, 4, 5, 12, 13, 14, 70, 71, 72, 83, 84, 85]
  | 15, 9 => [1, 2]
  | 15, 20 => [1, 2]
  | 15, 26 => [2, 23, 24, 25]
  | 15, 34 => [2, 3, 4, 23, 24, 25]
  | 15, 57 => [2, 23, 24, 25]
  | 39, 13 => [0, 2]
  | 39, 17 => [0, 2, 15, 16]
  | 39, 49 => [0, 2, 15, 16]
  | 40, 7 => [0, 2]
  | 40, 11 => [2, 8, 9, 10]
  | 40, 16 => [2, 8, 9, 10]
  | 32, 24 => [2, 3]
  | 32, 28 => [2, 25, 26, 27]
  | 32, 46 => [2, 25, 26, 27]
  | 60, 10 => [0, 2, 3]
  | 60, 15 => [0, 2, 3, 4, 5]
  | 60, 28 => [0, 2, 3, 4, 5, 6, 7]
  | 81, 10 => [2, 3]
  | 43, 16 => [1, 2, 6, 7, 13, 14, 15]
  | 43, 33 => [1, 2, 6, 7, 13, 14, 15]
  | 102, 9 => [0, 1, 4, 5]
  | 84, 6 => [2, 4]
  | 46, 10 => [0, 1, 4]
  | 46, 14 => [0, 1, 4, 12, 13]
  | 46, 24 => [0, 1, 4, 12, 13]
  | 34, 14 => [1, 4, 5, 11, 12, 13]
  | 34, 26 => [1, 4, 5, 11, 12, 13]
  | 63, 4 => [0, 2]
  | 69, 9 => [0, 1, 4, 7, 8]
  | 69, 16 => [0, 1, 4, 7, 8]
  | 75, 0 => [0, 2]
  | 96, 4 => [0, 2]
  | 96, 8 => [0, 2]
  | 97, 4 => [0, 2]
  | 97, 8 => [0, 2]
  | 97, 14 => [0, 2]
  | 86, 23 => [0, 1, 2, 3, 8, 9, 10]
  | 86, 29 => [0, 1, 2, 3, 8, 9, 10]
  | 86, 35 => [0, 1, 2, 3, 8, 9, 10]
  | 86, 50 => [0, 1, 2, 3, 8, 9, 10, 11, 12]
  | 86, 68 => [0, 1, 2, 3, 8, 9, 10, 11]
  | 86, 72 => [0, 1, 2, 3, 8, 9, 10, 11]
  | 86, 87 => [0, 1, 2, 3, 10, 11]
  | 86, 113 => [0, 1, 2, 3, 8, 9]
  | 103, 12 => [0, 1, 2, 6]
  | 103, 30 => [0, 1, 2, 6, 7]
  | 104, 19 => [0, 6, 7, 8, 9]
  | 104, 30 => [0, 6, 7, 10]
  | 118, 16 => [0, 2, 3, 8, 9]
  | 118, 36 => [0, 2, 3, 8, 9]
  | 118, 52 => [0, 2, 3, 8, 9]
  | 105, 33 => [0, 1, 6, 7, 8, 9]
  | 105, 43 => [0, 1, 6, 7, 8, 9, 10]
  | 106, 32 => [6, 7, 9, 11]
  | 106, 34 => [0, 6, 7, 9, 10, 11, 12]
  | 106, 51 => [6, 7]
  | 106, 54 => [6, 7]
  | 122, 18 => [1, 2, 8, 9]
  | 107, 13 => [0, 6, 7]
  | 108, 14 => [0, 1, 2, 6, 7, 8]
  | 108, 32 => [0, 1, 2, 6, 7, 8]
  | 108, 37 => [0, 1, 2, 6, 7, 8]
  | 108, 41 => [0, 1, 2, 6, 7, 8]
  | 108, 61 => [0, 1, 2, 6, 7, 8]
  | 108, 65 => [0, 1, 2, 6, 7, 8, 9]
  | 108, 78 => [0, 1, 2, 6, 7, 8, 9]
  | 108, 98 => [0, 1, 2, 6, 7, 8]
  | 108, 103 => [0, 1, 2, 6, 7, 8, 10]
  | 108, 116 => [0, 1, 2, 6, 7, 8, 10]
  | 110, 43 => [0, 1, 8, 9, 10]
  | 110, 59 => [0, 1, 8, 9, 10]
  | 110, 64 => [0, 1, 8, 9, 10]
  | 111, 43 => [0, 1, 8, 9, 10, 11]
  | 111, 60 => [0, 1, 8, 9, 10, 11]
  | 111, 65 => [0, 1, 8, 9, 10, 11]
  | 111, 112 => [0, 1, 8, 9, 10, 11]
  | 111, 129 => [0, 1, 8, 9, 10, 11]
  | 111, 134 => [0, 1, 8, 9, 10, 11]
  | 68, 8 => [0, 2]
  | 68, 13 => [0, 2, 3]
  | 68, 25 => [0, 2, 3]
  | 68, 32 => [0, 2, 3, 4, 5]
  | 68, 44 => [0, 2, 3, 4, 5]
  | 25, 10 => [0, 1, 4]
  | 25, 14 => [0, 1, 4, 12, 13]
  | 25, 24 => [0, 1, 4, 12, 13]
  | _, _ => []
def blkT (f k : Nat) : List Nat := match f, k with
  | 8, 0 => [6, 9, 11]
  | 8, 1 => [6, 9, 11, 41, 42, 43]
  | 23, 0 => [0, 3, 4, 5]
  | 23, 1 => [0, 3, 4, 5, 22, 23, 24]
  | 23, 2 => [0, 3, 4, 5]
  | 23, 3 => [0, 3, 4, 5, 48, 49, 50]
  | 23, 4 => [4, 5, 12]
  | 23, 5 => [3, 4, 5, 12, 70, 71, 72]
  | 23, 6 => [3, 4, 5, 12, 70, 71, 72]
  | 23, 7 => [3, 4, 5, 12, 13, 14, 70, 71, 72, 83, 84, 85]
  | 15, 0 => [2]
  | 15, 1 => [2, 23, 24, 25]
  | 39, 0 => [2]
  | 39, 1 => [0, 2, 15, 16]
  | 40, 0 => [2]
  | 40, 1 => [2, 8, 9, 10]
  | 32, 0 => [2]
  | 32, 1 => [2, 25, 26, 27]
  | 60, 0 => [2, 3, 4]
  | 60, 1 => [0, 2, 3, 4, 5]
  | 43, 0 => [6, 7]
  | 43, 1 => [1, 2, 6, 7, 13, 14, 15]
  | 84, 0 => [2]
  | 84, 1 => [2, 4]
  | 46, 0 => [4]
  | 46, 1 => [0, 1, 4, 12, 13]
  | 34, 0 => [4, 5]
  | 34, 1 => [1, 4, 5, 11, 12, 13]
  | 69, 0 => [4]
  | 69, 1 => [0, 1, 4, 7, 8]
  | 86, 1 => [0, 1, 2, 3, 8, 9]
  | 103, 1 => [0, 1, 2, 6]
  | 103, 2 => [0, 1, 2, 6]
  | 103, 3 => [0, 1, 2, 6, 7]
  | 104, 0 => [0, 6, 7, 8]
  | 104, 1 => [0, 6, 7, 8, 9]
  | 104, 3 => [0, 6, 7, 10]
  | 118, 1 => [0, 2, 3, 8]
  | 105, 1 => [0, 1, 6, 7, 8, 9]
  | 106, 0 => [6, 7]
  | 107, 1 => [0, 6, 7]
  | 108, 0 => [6]
  | 108, 1 => [0, 1, 2, 6, 7, 8]
  | 108, 2 => [0, 1, 2, 6, 7, 8]
  | 108, 3 => [0, 1, 2, 6, 7, 8]
  | 108, 4 => [0, 1, 2, 6, 7, 8]
  | 108, 5 => [0, 1, 2, 6, 7, 8, 9]
  | 108, 6 => [0, 1, 2, 6, 7, 8]
  | 108, 7 => [0, 1, 2, 6, 7, 8, 10]
  | 110, 0 => [8, 9]
  | 110, 1 => [0, 1, 8, 9, 10]
  | 110, 2 => [0, 1, 8, 9, 10]
  | 110, 3 => [0, 1, 8, 9, 10]
  | 110, 4 => [0, 1, 8, 9, 10]
  | 110, 5 => [0, 1, 8, 9, 10]
  | 111, 0 => [0, 1, 8, 9, 10, 11]
  | 111, 1 => [0, 1, 8, 9, 10, 11]
  | 111, 2 => [0, 1, 8, 9, 10, 11]
  | 111, 3 => [0, 1, 8, 9, 10, 11]
  | 111, 4 => [0, 1, 8, 9, 11]
  | 111, 5 => [0, 1, 8, 9, 10, 11]
  | 111, 6 => [0, 1, 8, 9, 10, 11]
  | 111, 7 => [0, 1, 8, 9, 10, 11]
  | 111, 8 => [0, 1, 8, 9, 10, 11]
  | 111, 9 => [0, 1, 8, 9, 10, 11]
  | 68, 0 => [0, 2]
  | 68, 1 => [0, 2, 3]
  | 68, 2 => [0, 2, 3]
  | 68, 3 => [0, 2, 3, 4, 5]
  | 25, 0 => [4]
  | 25, 1 => [0, 1, 4, 12, 13]
  | _, _ => []
def accT (f : Nat) : List Nat := match f with
  | 23 => [12]
  | 34 => [5]
  | 43 => [7]
  | 60 => [4]
  | 63 => [2]
  | _ => []
def ownT : List Nat := [112, 103, 94, 116, 108, 110, 118, 92, 74, 67, 68, 111, 86, 89, 122, 121, 119, 106, 105, 115, 55, 57, 88, 90, 114, 95, 120, 104, 107, 93, 91]
def rowT : List Nat := [112, 103, 94, 116, 108, 110, 118, 92, 74, 67, 43, 68, 111, 86, 89, 122, 121, 119, 106, 105, 115, 55, 57, 88, 90, 114, 95, 120, 104, 107, 93, 91]
def E0 : Env := { T := T, pureF := fun f => !ownT.contains f, keep := fun f => ⟨loopT f, condT f, blkT f⟩, acc := accT, rowF := fun f => rowT.contains f, rowM := false, ora := fun _ => none, oraD := fun _ => none }
theorem names_ok : ∀ (f : Nat) fn, Proofs.Tryd.prog.funcs[f]? = some fn → (fn.name == "runtime.NumGoroutine") = false := by
  intro f fn h
  have hall : (Proofs.Tryd.prog.funcs.toList.all fun fn => !(fn.name == "runtime.NumGoroutine")) = true := by kernel_rfl
  have := List.all_eq_true.1 hall fn (List.mem_of_getElem? (by simpa using h))
  simpa using this
theorem good0 : Good Proofs.Tryd.prog E0 := ⟨by kernel_rfl, T_ok, names_ok, (fun f F h => by cases h), (fun f F h => by cases h)⟩
/-! ### 63 slices.Clone[[]string,string] -/
def f63n (m : Nat) (a0 : (List (Cc 1))) : Option (List (Cc 1)) :=
  bnd (app 16 [] a0) fun v1 =>
  some v1
noncomputable abbrev X63n (n : Nat) : Cx := cxOf Proofs.Tryd.prog E0 63 n
noncomputable def C63n : Code := bodyOf Proofs.Tryd.prog 63
theorem ok63n (m : Nat) (a0 : (List (Cc 1))) (o : (List (Cc 1))) (h : f63n m a0 = some o) (n : Nat) (hn : m + 1 ≤ n) : Fn Proofs.Tryd.prog E0 n 63 [.v (.sl .non (List.map (cc 1) a0))] ((eL (cc 1)) o) := by
  obtain ⟨n, rfl⟩ : ∃ q, n = q + 1 := ⟨n - 1, by omega⟩
  unfold f63n at h
  refine Fn.of (by kernel_rfl) (by kernel_rfl) (by kernel_rfl) ⟨(.v (.sl .non (List.map (cc 1) a0))) :: u7 [], []⟩ (by kernel_rfl) ?_
  refine Wp.seq' (by kernel_rfl) ?_
  refine Wp.region (by kernel_rfl) ?_
  refine Ops.seg' 1 1 (by kernel_rfl) ?_
  refine Ops.done (by kernel_rfl) ?_
  refine seqQ.n ?_
  refine Wp.seq' (by kernel_rfl) ?_
  refine Wp.seq' (by kernel_rfl) ?_
  refine Wp.region (by kernel_rfl) ?_
  refine Ops.seg' 1 1 (by kernel_rfl) ?_
  refine Ops.one' 2 (fun h0 e0 => (nil_non (T := T) h0 36 9 .non (cc 1) a0 rfl (by kernel_rfl))) (by kernel_rfl) (by kernel_rfl) ?_
  refine Ops.done (by kernel_rfl) ?_
  refine seqQ.n ?_
  refine Wp.condF [0, 2] 0 (by kernel_rfl) ?_
  refine Wp.skip (by kernel_rfl) ?_
  refine sqQ.n' ?_
  refine seqQ.n ?_
  refine Wp.seq' (by kernel_rfl) ?_
  refine Wp.region (by kernel_rfl) ?_
  refine Ops.seg' 2 2 (by kernel_rfl) ?_
  obtain ⟨v1, ev1, h⟩ := bnd_some h
  refine Ops.one' 3 (fun h0 e0 => (app_n (T := T) (g := .nonfull) h0 36 9 1 ti9 .non (cc 1) a0 v1 ev1 (by kernel_rfl) (by kernel_rfl) (by kernel_rfl) (by kernel_rfl) (fun x => x.2))) (by kernel_rfl) (by kernel_rfl) ?_
  refine Ops.seg' 1 4 (by kernel_rfl) ?_
  refine Ops.done (by kernel_rfl) ?_
  refine seqQ.n ?_
  refine Wp.ret (by kernel_rfl) ?_
  exact fnQ.r' (X63n n) (fun z => ((eL (cc 1)) z)) h (RetOk.mk' (appF .nonfull 1 (List.map (cc 1) v1)) (by kernel_rfl) (appD_frz _ _ _ _))
theorem clone63 : Is Proofs.Tryd.prog 63 ∧ ∀ vs r, cloneF 1 16 vs = some r → ∀ S w us, RelL S [] w us (vs.map .v) → (∀ b i, S b i → b < w.heap.size) → Glob S w →
    Calls Proofs.Tryd.prog 63 us w fun e w' => ∃ v S', e = .returned v ∧ Ext S [] w S' [] w' ∧ HInv S' [] w' [] ∧ RelV S' w' v r := by
  refine clone_sound good0 ⟨.v (.sl .nil []), [], by kernel_rfl, by kernel_rfl⟩ fun es h1 h2 h3 => ?_
  obtain ⟨l, rfl⟩ := sub_list es h1
  have h4 : f63n 1 l = some l := by
    unfold f63n app
    rw [List.length_map] at h2 h3
    simp only [List.length_nil, Nat.zero_add, List.nil_append]
    rw [if_pos ⟨h2, h3⟩]
    rfl
  exact ok63n 1 l l h4 3 (by omega)

def oraT1 (f : Nat) : Option (List V → Option V) := match f with
  | 63 => some (cloneF 1 16)
  | 81 => some decodeF
  | 61 => some ixbyteF
  | 84 => some runesF
  | _ => none
def E1 : Env := { E0 with ora := oraT1 }
def oraT (f : Nat) : Option (List V → Option V) := match f with
  | 22 => some trueF
  | f => oraT1 f
def oraDT (f : Nat) : Option (List D → List AObj → Option (D × List AObj)) := match f with
  | 67 => some sortF
  | 68 => some compactF
  | _ => none
def E : Env := { E0 with ora := oraT, oraD := oraDT }
theorem isd67 : Is Proofs.Tryd.prog 67 := ⟨Proofs.Tryd.f67, Proofs.Tryd.func67, by kernel_rfl, by kernel_rfl⟩
theorem orad67 : DOk Proofs.Tryd.prog 67 sortF := sort_sound isd67 (fun blk off cap ss w h1 h2 h3 => Proofs.Tryd.slices_Sort_string blk off cap ss w h1 h2 h3) (fun p cap w => Proofs.Tryd.slices_Sort_string_none p cap w)
theorem isd68 : Is Proofs.Tryd.prog 68 := ⟨Proofs.Tryd.f68, Proofs.Tryd.func68, by kernel_rfl, by kernel_rfl⟩
theorem orad68 : DOk Proofs.Tryd.prog 68 compactF := compact_sound isd68 (fun blk off cap zs w h1 h2 h3 => Proofs.Tryd.slices_Compact_string blk off cap zs w h1 h2 h3) (fun a cap w => Proofs.Tryd.slices_Compact_string_empty a cap w)
theorem oraD_ok : DSound Proofs.Tryd.prog E := by
  intro f F h
  have h : oraDT f = some F := h
  unfold oraDT at h
  split at h <;> first | (cases h; done) | skip
  · cases h; exact orad67
  · cases h; exact orad68
theorem tabs_of_glob {S : Nat → Nat → Prop} {w : World} (h : Glob S w) : Lib.Utf8Tabs 0 1 w := by
  refine ⟨fun c hc => ?_, fun i hi => ?_⟩
  · obtain ⟨_, v, h2, h3⟩ := h 0 firstTab rfl c (.int .u8 (Lib.firstT c)) (by simp [firstTab, hc])
    cases h3
    exact h2
  · obtain ⟨_, v, h2, h3⟩ := h 1 acceptTab rfl (2 * i) (.int .u8 (Lib.accLo i)) (by simp [acceptTab, show 2 * i < 32 by omega, show 2 * i / 2 = i by omega])
    cases h3
    obtain ⟨_, v, g2, g3⟩ := h 1 acceptTab rfl (2 * i + 1) (.int .u8 (Lib.accHi i)) (by simp [acceptTab, show 2 * i + 1 < 32 by omega, show (2 * i + 1) / 2 = i by omega])
    cases g3
    exact ⟨h2, g2⟩
theorem is81 : Is Proofs.Tryd.prog 81 := ⟨Proofs.Tryd.f81, Proofs.Tryd.func81, by kernel_rfl, by kernel_rfl⟩
theorem ora81 : OraOk Proofs.Tryd.prog 81 decodeF := decode_sound is81 fun S w hg => ⟨0, 1, tabs_of_glob hg, fun s => Proofs.Tryd.utf8_DecodeRuneInString s w (tabs_of_glob hg)⟩
theorem is61 : Is Proofs.Tryd.prog 61 := ⟨Proofs.Tryd.f61, Proofs.Tryd.func61, by kernel_rfl, by kernel_rfl⟩
theorem ora61 : OraOk Proofs.Tryd.prog 61 ixbyteF := ixbyte_sound is61 fun s c w => Proofs.Tryd.strings_IndexByte s c w
theorem is84 : Is Proofs.Tryd.prog 84 := ⟨Proofs.Tryd.f84, Proofs.Tryd.func84, by kernel_rfl, by kernel_rfl⟩
theorem ora84 : OraOk Proofs.Tryd.prog 84 runesF := runes_sound is84 fun s w hs => Proofs.Tryd.utf8_RuneCountInString s w hs
theorem ora1_ok : OSound Proofs.Tryd.prog E1 := by
  intro f F h
  have h : oraT1 f = some F := h
  unfold oraT1 at h
  split at h <;> first | (cases h; done) | skip
  · cases h; exact clone63
  · cases h; exact ora81
  · cases h; exact ora61
  · cases h; exact ora84
theorem good1 : Good Proofs.Tryd.prog E1 := ⟨good0.mixed, T_ok, names_ok, ora1_ok, (fun f F h => by cases h)⟩
theorem closed22 : OraOk Proofs.Tryd.prog 22 trueF := closed_sound (n := 60) good1 (by kernel_rfl)
theorem ora_ok : OSound Proofs.Tryd.prog E := by
  intro f F h
  have h : oraT f = some F := h
  unfold oraT at h
  split at h
  · cases h; exact closed22
  · exact ora1_ok f F h
theorem good : Good Proofs.Tryd.prog E := ⟨good0.mixed, T_ok, names_ok, ora_ok, oraD_ok⟩
structure S67 where
  fTags : (List ByteArray)
  fCut : ByteArray
  fAdd : ByteArray
def e67 : S67 → V := fun x => (.agg [(vP eS x.fTags), (.str x.fCut), (.str x.fAdd)])
structure S23 where
  fName : ByteArray
  fCells : (List S67)
def e23 : S23 → V := fun x => (.agg [(.str x.fName), (vP e67 x.fCells)])
structure S27 where
  fCode : Int
  fIndex : Int
def e27 : S27 → V := fun x => (.agg [(vI x.fCode), (vI x.fIndex)])
structure S41 where
  fTags : (List ByteArray)
  fForm : ByteArray
def e41 : S41 → V := fun x => (.agg [(vP eS x.fTags), (.str x.fForm)])
end Go.Abs
