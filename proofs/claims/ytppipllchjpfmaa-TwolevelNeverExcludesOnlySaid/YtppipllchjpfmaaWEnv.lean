import Derived.Test.YtppipllchjpfmaaAbsW
import Derived.Test.YtppipllchjpfmaaAbsL
import Derived.Test.YtppipllchjpfmaaAbsN
import Derived.Test.YtppipllchjpfmaaProg
namespace Go.Abs
set_option linter.unusedVariables false
set_option maxRecDepth 100000
def ti3 : TI := ⟨.int .i64, 1, 8, .int .i64 (0), true⟩
def ti4 : TI := ⟨.bool, 1, 1, .bool false, true⟩
def ti26 : TI := ⟨.struct [(0, 3), (1, 3)], 2, 16, .agg [.int .i64 (0), .int .i64 (0)], true⟩
def ti36 : TI := ⟨.slice 43, 1, 24, .sl .nil [], true⟩
def ti37 : TI := ⟨.slice 40, 1, 24, .sl .nil [], true⟩
def ti40 : TI := ⟨.struct [(0, 3), (1, 3)], 2, 16, .agg [.int .i64 (0), .int .i64 (0)], true⟩
def ti41 : TI := ⟨.slice 65, 1, 24, .sl .nil [], true⟩
def ti43 : TI := ⟨.struct [(0, 3), (1, 40), (3, 41)], 4, 48, .agg [.int .i64 (0), .int .i64 (0), .int .i64 (0), .sl .nil []], true⟩
def ti65 : TI := ⟨.struct [(0, 37), (1, 37), (2, 4), (3, 4)], 4, 56, .agg [.sl .nil [], .sl .nil [], .bool false, .bool false], true⟩
def T (t : Nat) : Option TI := match t with
  | 3 => some ti3
  | 4 => some ti4
  | 26 => some ti26
  | 36 => some ti36
  | 37 => some ti37
  | 40 => some ti40
  | 41 => some ti41
  | 43 => some ti43
  | 65 => some ti65
  | _ => none
theorem T_ok : ∀ t i, T t = some i → tiOf Proofs.Try.prog t = some i := by
  intro t i h
  unfold T at h
  split at h <;> first | (cases h; kernel_rfl) | (cases h; done)
def loopT (f k : Nat) : List Nat := match f, k with
  | 43, 2 => [2, 5, 6, 7]
  | 33, 10 => [2, 33, 34, 35]
  | 17, 4 => [2, 10, 11, 12]
  | 34, 4 => [0, 2, 6, 14, 15, 16]
  | 44, 5 => [1, 2, 3, 6, 7, 51, 52, 53]
  | 44, 11 => [1, 2, 6, 69, 70, 71]
  | 35, 3 => [1, 2, 3, 6, 7, 14, 15, 16]
  | 18, 8 => [1, 4, 5, 6, 24, 25, 26]
  | 18, 11 => [1, 4, 5, 6, 9, 10, 24, 25, 26, 32, 33]
  | 9, 10 => [2, 4, 7, 10, 31, 32, 33]
  | _, _ => []
def condT (f k : Nat) : List Nat := match f, k with
  | 43, 8 => [2, 5, 6, 7]
  | 43, 20 => [2, 4, 5, 6, 7]
  | 43, 23 => [2, 5, 6, 7]
  | 33, 10 => [1, 2]
  | 33, 22 => [1, 2]
  | 33, 26 => [1, 2]
  | 33, 31 => [1, 2]
  | 33, 36 => [2, 33, 34, 35]
  | 33, 48 => [2, 4, 33, 34, 35]
  | 33, 53 => [2, 4, 33, 34, 35]
  | 33, 59 => [2, 33, 34, 35]
  | 17, 8 => [0, 2]
  | 17, 13 => [2, 10, 11, 12]
  | 17, 20 => [2, 10, 11, 12]
  | 34, 12 => [0, 2, 6]
  | 34, 17 => [0, 2, 6, 14, 15, 16]
  | 34, 30 => [0, 2, 6, 7, 8, 14, 15, 16]
  | 34, 35 => [0, 2, 6, 7, 8, 14, 15, 16]
  | 34, 76 => [0, 2, 6, 14, 15, 16]
  | 44, 49 => [1, 2, 3, 6, 7]
  | 44, 54 => [1, 2, 3, 6, 7, 51, 52, 53]
  | 44, 66 => [1, 2, 3, 6, 7, 51, 52, 53]
  | 44, 72 => [1, 2, 6, 69, 70, 71]
  | 44, 85 => [1, 2, 6, 69, 70, 71]
  | 35, 17 => [1, 2, 3, 6, 7, 14, 15, 16]
  | 35, 57 => [3, 6, 7, 10]
  | 35, 60 => [3, 6, 7, 10]
  | 35, 63 => [3, 6, 7, 10]
  | 18, 16 => [0, 1, 4, 5, 6]
  | 18, 22 => [0, 1, 4, 5, 6]
  | 18, 27 => [1, 4, 5, 6, 24, 25, 26]
  | 18, 34 => [1, 4, 5, 6, 9, 10, 24, 25, 26, 32, 33]
  | 18, 40 => [1, 4, 5, 6, 9, 10, 24, 25, 26, 32, 33]
  | 9, 14 => [1, 2, 4]
  | 9, 30 => [1, 2, 4, 7]
  | 9, 34 => [2, 4, 7, 10, 31, 32, 33]
  | _, _ => []
def blkT (f k : Nat) : List Nat := match f, k with
  | 43, 0 => [2]
  | 43, 1 => [2, 5, 6, 7]
  | 33, 0 => [2]
  | 33, 1 => [2, 33, 34, 35]
  | 17, 0 => [2]
  | 17, 1 => [2, 10, 11, 12]
  | 34, 0 => [6]
  | 34, 1 => [0, 2, 6, 14, 15, 16]
  | 44, 0 => [1, 2, 3, 6]
  | 44, 1 => [1, 2, 3, 6, 7, 51, 52, 53]
  | 44, 2 => [6]
  | 44, 3 => [1, 2, 6, 69, 70, 71]
  | 35, 0 => [1, 2, 3, 6, 7]
  | 35, 1 => [1, 2, 3, 6, 7, 14, 15, 16]
  | 35, 2 => [3, 6, 7, 10]
  | 18, 0 => [4, 5, 6]
  | 18, 1 => [1, 4, 5, 6, 24, 25, 26]
  | 18, 2 => [1, 4, 5, 6, 24, 25, 26]
  | 18, 3 => [1, 4, 5, 6, 9, 10, 24, 25, 26, 32, 33]
  | 9, 0 => [4, 7, 10]
  | 9, 1 => [2, 4, 7, 10, 31, 32, 33]
  | _, _ => []
def accT (f : Nat) : List Nat := match f with
  | _ => []
def E0 : Env := { T := T, pureF := fun _ => true, thawF := fun _ => false, keep := fun f => ⟨loopT f, condT f, blkT f⟩, acc := accT, rowF := fun _ => false, rowM := false, ora := fun _ => none }
theorem names_ok : ∀ (f : Nat) fn, Proofs.Try.prog.funcs[f]? = some fn → (fn.name == "runtime.NumGoroutine") = false := by
  intro f fn h
  have hall : (Proofs.Try.prog.funcs.toList.all fun fn => !(fn.name == "runtime.NumGoroutine")) = true := by kernel_rfl
  have := List.all_eq_true.1 hall fn (List.mem_of_getElem? (by simpa using h))
  simpa using this
theorem good0 : Good Proofs.Try.prog E0 := ⟨by kernel_rfl, T_ok, names_ok, fun f F h => by cases h⟩
abbrev E : Env := E0
theorem good : Good Proofs.Try.prog E := good0
structure S25 where
  fCode : Int
  fIndex : Int
def e25 : S25 → V := fun x => (.agg [(vI x.fCode), (vI x.fIndex)])
structure S39 where
  fLexical : Int
  fSurface : Int
def e39 : S39 → V := fun x => (.agg [(vI x.fLexical), (vI x.fSurface)])
structure S64 where
  fLeft : (List S39)
  fRight : (List S39)
  fBegin : Bool
  fEnd : Bool
def e64 : S64 → V := fun x => (.agg [(vP e39 x.fLeft), (vP e39 x.fRight), (vB x.fBegin), (vB x.fEnd)])
structure S42 where
  fKind : Int
  fPair : S39
  fContexts : (List S64)
def e42 : S42 → V := fun x => (.agg [(vI x.fKind), (vI x.fPair.fLexical), (vI x.fPair.fSurface), (vP e64 x.fContexts)])
end Go.Abs
