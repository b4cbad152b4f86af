import Derived.Test.YtbeegandhppniaaAbsW
import Derived.Test.YtbeegandhppniaaAbsL
import Derived.Test.YtbeegandhppniaaAbsN
import Derived.Test.YtbeegandhppniaaAbsM
import Derived.Test.YtbeegandhppniaaGL
import Derived.Test.YtbeegandhppniaaXC
import Derived.Test.YtbeegandhppniaaProg
namespace Go.Abs
set_option linter.unusedVariables false
set_option linter.unusedSimpArgs false
set_option linter.unnecessarySimpa false
set_option maxRecDepth 100000
theorem Ops.hv {X : Cx} {ops : List Oper} {i : Nat} {σ : St} {Q : St → Prop} (P : (Nat → St → Prop) → Prop) (h1 : P fun j τ => Ops X ops j τ Q) (h2 : (P fun j τ => Ops X ops j τ Q) → Ops X ops i σ Q) : Ops X ops i σ Q := h2 h1
def ti3 : TI := ⟨.int .i64, 1, 8, .int .i64 (0), true, []⟩
def ti4 : TI := ⟨.bool, 1, 1, .bool false, true, []⟩
def ti22 : TI := ⟨.slice 3, 1, 24, .sl .nil [], true, []⟩
def ti24 : TI := ⟨.struct [(0, 22), (1, 22), (2, 22), (3, 22)], 4, 96, .agg [.sl .nil [], .sl .nil [], .sl .nil [], .sl .nil []], true, []⟩
def ti26 : TI := ⟨.slice 54, 1, 24, .sl .nil [], true, []⟩
def ti27 : TI := ⟨.slice 59, 1, 24, .sl .nil [], true, []⟩
def ti29 : TI := ⟨.struct [(0, 3), (1, 26), (2, 27)], 3, 56, .agg [.int .i64 (0), .sl .nil [], .sl .nil []], true, []⟩
def ti31 : TI := ⟨.struct [(0, 3), (1, 3)], 2, 16, .agg [.int .i64 (0), .int .i64 (0)], true, []⟩
def ti46 : TI := ⟨.struct [(0, 24), (4, 22), (5, 22)], 6, 144, .agg [.sl .nil [], .sl .nil [], .sl .nil [], .sl .nil [], .sl .nil [], .sl .nil []], true, []⟩
def ti48 : TI := ⟨.slice 76, 1, 24, .sl .nil [], true, []⟩
def ti49 : TI := ⟨.slice 80, 1, 24, .sl .nil [], true, []⟩
def ti54 : TI := ⟨.struct [(0, 3), (1, 3), (2, 3), (3, 3), (4, 3)], 5, 40, .agg [.int .i64 (0), .int .i64 (0), .int .i64 (0), .int .i64 (0), .int .i64 (0)], true, []⟩
def ti56 : TI := ⟨.slice 4, 1, 24, .sl .nil [], true, []⟩
def ti59 : TI := ⟨.struct [(0, 3), (1, 3)], 2, 16, .agg [.int .i64 (0), .int .i64 (0)], true, []⟩
def ti61 : TI := ⟨.slice 26, 1, 24, .sl .nil [], true, []⟩
def ti64 : TI := ⟨.struct [(0, 3), (1, 3), (2, 3), (3, 3)], 4, 32, .agg [.int .i64 (0), .int .i64 (0), .int .i64 (0), .int .i64 (0)], true, []⟩
def ti66 : TI := ⟨.slice 64, 1, 24, .sl .nil [], true, [("Len", some (24, false)), ("Less", some (101, false)), ("Swap", some (104, false))]⟩
def ti76 : TI := ⟨.struct [(0, 3), (1, 3)], 2, 16, .agg [.int .i64 (0), .int .i64 (0)], true, []⟩
def ti80 : TI := ⟨.struct [(0, 3), (1, 3), (2, 3), (3, 22)], 4, 48, .agg [.int .i64 (0), .int .i64 (0), .int .i64 (0), .sl .nil []], true, []⟩
def ti100 : TI := ⟨.slice 22, 1, 24, .sl .nil [], true, []⟩
def T (t : Nat) : Option TI := match t with
 | 3 => some ti3
 | 4 => some ti4
 | 22 => some ti22
 | 24 => some ti24
 | 26 => some ti26
 | 27 => some ti27
 | 29 => some ti29
 | 31 => some ti31
 | 46 => some ti46
 | 48 => some ti48
 | 49 => some ti49
 | 54 => some ti54
 | 56 => some ti56
 | 59 => some ti59
 | 61 => some ti61
 | 64 => some ti64
 | 66 => some ti66
 | 76 => some ti76
 | 80 => some ti80
 | 100 => some ti100
 | _ => none
theorem T_ok : ∀ t i, T t = some i → tiOf Proofs.Try.prog t = some i := by
 intro t i h
 unfold T at h
 split at h <;> first | (cases h; kernel_rfl) | (cases h; done)
def loopT (f k : Nat) : List Nat := match f, k with
 | 32, 2 => [0, 3, 4, 5]
 | 52, 3 => [0, 1, 2, 6]
 | 28, 3 => [0, 2, 3, 9, 10, 11]
 | 28, 11 => [2, 6, 25, 26, 27]
 | 27, 2 => [2, 5, 6, 7]
 | 10, 6 => [1, 2, 22, 23, 24]
 | 10, 14 => [1, 2, 100, 101, 102]
 | 21, 4 => [4, 5, 6, 31, 32]
 | 22, 6 => [1, 2, 18, 19, 20]
 | 22, 14 => [1, 2, 78, 79, 80]
 | 49, 3 => [2, 3, 6, 7, 8]
 | 33, 4 => [0, 1, 4, 12, 13]
 | 6, 4 => [1, 4, 12, 13, 14]
 | 9, 2 => [1, 4, 10, 11, 12]
 | 9, 6 => [1, 4, 6, 7, 10, 11, 12, 16, 17, 18]
 | 5, 7 => [1, 2, 4, 5, 23, 24, 25]
 | 11, 14 => [1, 2, 3, 6, 7, 8, 12, 55, 56, 57]
 | 11, 20 => [1, 2, 3, 6, 7, 8, 12, 15, 78, 79]
 | 11, 25 => [1, 2, 3, 6, 7, 8, 12, 15, 87, 88, 89]
 | 11, 32 => [1, 2, 6, 7, 8, 12, 15, 19, 20, 21]
 | 11, 42 => [1, 2, 6, 7, 8, 12, 15, 19, 20, 21, 22, 186, 187, 188]
 | 8, 6 => [2, 4, 5, 24, 25, 26]
 | 8, 12 => [2, 4, 5, 7, 8, 24, 25, 26, 36, 37, 38]
 | 8, 20 => [4, 5, 63, 64, 65]
 | _, _ => []
def condT (f k : Nat) : List Nat := match f, k with
 | 39, 57 => [0, 6, 7, 9, 10, 11]
 | 32, 16 => [0, 3, 4, 5]
 | 32, 44 => [0, 3, 4, 5]
 | 52, 13 => [0, 1, 2, 6]
 | 52, 33 => [0, 1, 2, 6]
 | 52, 49 => [1, 6]
 | 28, 12 => [0, 2, 3, 9, 10, 11]
 | 28, 20 => [0, 2, 3, 9, 10, 11]
 | 28, 28 => [2, 6, 25, 26, 27]
 | 12, 30 => [1, 2]
 | 12, 52 => [2]
 | 27, 8 => [2, 5, 6, 7]
 | 27, 16 => [2, 5, 6, 7]
 | 10, 14 => [1, 2]
 | 10, 19 => [1, 2]
 | 10, 25 => [1, 2, 22, 23, 24]
 | 10, 80 => [1, 2, 3, 4, 22, 23, 24]
 | 10, 95 => [1, 2, 22, 23, 24]
 | 10, 103 => [1, 2, 100, 101, 102]
 | 10, 126 => [1, 2, 5, 6, 100, 101, 102]
 | 10, 146 => [1, 2, 100, 101, 102]
 | 21, 33 => [4, 5, 6, 31, 32]
 | 21, 43 => [4, 5, 6, 31, 32]
 | 22, 10 => [1, 2]
 | 22, 15 => [1, 2]
 | 22, 21 => [1, 2, 18, 19, 20]
 | 22, 58 => [1, 2, 3, 4, 18, 19, 20]
 | 22, 73 => [1, 2, 18, 19, 20]
 | 22, 81 => [1, 2, 78, 79, 80]
 | 22, 97 => [1, 2, 5, 6, 78, 79, 80]
 | 22, 117 => [1, 2, 78, 79, 80]
 | 50, 11 => [0, 1, 4, 6]
 | 50, 12 => [4]
 | 50, 13 => [0, 1, 4]
 | 50, 16 => [0, 1, 4]
 | 50, 19 => [4]
 | 49, 9 => [2, 3, 6, 7, 8]
 | 49, 14 => [2, 3, 6, 7, 8]
 | 33, 10 => [0, 1, 4]
 | 33, 14 => [0, 1, 4, 12, 13]
 | 33, 24 => [0, 1, 4, 12, 13]
 | 6, 9 => [0, 1, 4]
 | 6, 15 => [1, 4, 12, 13, 14]
 | 6, 23 => [1, 4, 12, 13, 14]
 | 9, 13 => [1, 4, 10, 11, 12]
 | 9, 19 => [1, 4, 6, 7, 10, 11, 12, 16, 17, 18]
 | 9, 30 => [1, 4, 10, 11, 12]
 | 53, 4 => [0, 2]
 | 40, 4 => [0, 2]
 | 3, 12 => [1, 2, 3, 6]
 | 3, 27 => [1, 2, 6, 7]
 | 4, 21 => [0, 1]
 | 5, 14 => [1, 2, 4, 5]
 | 5, 20 => [1, 2, 4, 5]
 | 5, 26 => [1, 2, 4, 5, 23, 24, 25]
 | 5, 35 => [1, 2, 4, 5, 7, 8, 23, 24, 25]
 | 5, 49 => [1, 2, 4, 5, 23, 24, 25]
 | 5, 74 => [4, 5, 10]
 | 11, 33 => [1, 2, 3, 6, 7, 8]
 | 11, 39 => [1, 2, 3, 6, 7, 8]
 | 11, 45 => [1, 2, 3, 6, 7, 8]
 | 11, 49 => [1, 2, 3, 6, 7, 8]
 | 11, 58 => [1, 2, 3, 6, 7, 8, 12, 55, 56, 57]
 | 11, 80 => [1, 2, 3, 6, 7, 8, 12, 15, 78, 79]
 | 11, 90 => [1, 2, 3, 6, 7, 8, 12, 15, 87, 88, 89]
 | 11, 118 => [1, 2, 6, 7, 8, 12, 15, 19, 20, 21]
 | 11, 142 => [1, 2, 6, 7, 8, 12, 15, 19, 20, 21, 22, 23]
 | 11, 165 => [1, 2, 6, 7, 8, 12, 15, 19, 20, 21, 22]
 | 11, 180 => [1, 2, 6, 7, 8, 12, 15, 19, 20, 21, 22]
 | 11, 189 => [1, 2, 6, 7, 8, 12, 15, 19, 20, 21, 22, 186, 187, 188]
 | 11, 198 => [1, 2, 6, 7, 8, 12, 15, 19, 20, 21, 22, 26, 27, 28, 186, 187, 188]
 | 11, 211 => [1, 2, 6, 7, 8, 12, 15, 19, 20, 21, 22, 26, 27, 28, 186, 187, 188]
 | 11, 216 => [1, 2, 6, 7, 8, 12, 15, 19, 20, 21, 22, 26, 27, 28, 186, 187, 188]
 | 11, 229 => [1, 2, 6, 7, 8, 12, 15, 19, 20, 21, 22, 26, 27, 28, 186, 187, 188]
 | 8, 18 => [1, 2, 4, 5]
 | 8, 27 => [2, 4, 5, 24, 25, 26]
 | 8, 31 => [2, 4, 5, 7, 24, 25, 26]
 | 8, 39 => [2, 4, 5, 7, 8, 24, 25, 26, 36, 37, 38]
 | 8, 52 => [2, 4, 5, 7, 8, 24, 25, 26, 36, 37, 38]
 | 8, 66 => [4, 5, 63, 64, 65]
 | 8, 73 => [4, 5, 63, 64, 65]
 | _, _ => []
def blkT (f k : Nat) : List Nat := match f, k with
 | 32, 0 => [4]
 | 32, 1 => [0, 3, 4, 5]
 | 52, 0 => [0, 1, 2, 6]
 | 52, 1 => [0, 1, 2, 6]
 | 28, 0 => [0, 2, 3]
 | 28, 1 => [0, 2, 3, 9, 10, 11]
 | 28, 2 => [2, 6]
 | 28, 3 => [2, 6, 25, 26, 27]
 | 27, 0 => [2]
 | 27, 1 => [2, 5, 6, 7]
 | 10, 0 => [1, 2]
 | 10, 1 => [1, 2, 22, 23, 24]
 | 10, 2 => [2]
 | 10, 3 => [1, 2, 100, 101, 102]
 | 21, 0 => [4]
 | 21, 1 => [4, 5, 6, 31, 32]
 | 22, 0 => [1, 2]
 | 22, 1 => [1, 2, 18, 19, 20]
 | 22, 2 => [2]
 | 22, 3 => [1, 2, 78, 79, 80]
 | 49, 0 => [2, 3]
 | 49, 1 => [2, 3, 6, 7, 8]
 | 33, 0 => [4]
 | 33, 1 => [0, 1, 4, 12, 13]
 | 6, 0 => [4]
 | 6, 1 => [1, 4, 12, 13, 14]
 | 9, 0 => [4]
 | 9, 1 => [1, 4, 10, 11, 12]
 | 9, 2 => [1, 4, 7, 10, 11, 12]
 | 9, 3 => [1, 4, 6, 7, 10, 11, 12, 16, 17, 18]
 | 5, 0 => [1, 2, 4, 5]
 | 5, 1 => [1, 2, 4, 5, 23, 24, 25]
 | 11, 0 => [1, 2, 3, 6, 7, 8, 12]
 | 11, 1 => [1, 2, 3, 6, 7, 8, 12, 55, 56, 57]
 | 11, 2 => [1, 2, 3, 6, 7, 8, 12, 15]
 | 11, 3 => [1, 2, 3, 6, 7, 8, 12, 15, 78, 79]
 | 11, 4 => [1, 2, 3, 6, 7, 8, 12, 15]
 | 11, 5 => [1, 2, 3, 6, 7, 8, 12, 15, 87, 88, 89]
 | 11, 6 => [6, 7, 8, 19]
 | 11, 7 => [1, 2, 6, 7, 8, 12, 15, 19, 20, 21]
 | 11, 8 => [1, 2, 6, 7, 8, 12, 15, 19, 20, 21]
 | 11, 9 => [1, 2, 6, 7, 8, 12, 15, 19, 20, 21, 22, 186, 187, 188]
 | 8, 0 => [2, 4, 5]
 | 8, 1 => [2, 4, 5, 24, 25, 26]
 | 8, 2 => [2, 4, 8, 24, 25, 26]
 | 8, 3 => [2, 4, 5, 7, 8, 24, 25, 26, 36, 37, 38]
 | 8, 4 => [4]
 | 8, 5 => [4, 5, 63, 64, 65]
 | _, _ => []
def accT (f : Nat) : List Nat := match f with
 | 28 => [6]
 | 39 => [11]
 | _ => []
def ownT : List Nat := [72, 62, 60, 35, 54, 47, 67, 70, 46, 74, 37, 73, 58, 56, 51, 79, 80, 82, 77, 59, 81, 71, 69, 68, 84, 78, 75, 57, 61, 83, 63, 34]
def rowT : List Nat := [72, 62, 60, 35, 54, 47, 67, 70, 46, 74, 37, 73, 58, 56, 51, 79, 80, 82, 77, 59, 81, 71, 69, 68, 84, 78, 75, 57, 61, 83, 63]
def E0 : Env := { T := T, pureF := fun f => !ownT.contains f, keep := fun f => ⟨loopT f, condT f, blkT f⟩, acc := accT, rowF := fun f => rowT.contains f, rowM := false, ora := fun _ => none, oraD := fun _ => none }
theorem names_ok : ∀ (f : Nat) fn, Proofs.Try.prog.funcs[f]? = some fn → (fn.name == "runtime.NumGoroutine") = false := by
 intro f fn h
 have hall : (Proofs.Try.prog.funcs.toList.all fun fn => !(fn.name == "runtime.NumGoroutine")) = true := by kernel_rfl
 have := List.all_eq_true.1 hall fn (List.mem_of_getElem? (by simpa using h))
 simpa using this
theorem good0 {DR : Prop} : Good DR Proofs.Try.prog E0 := ⟨by kernel_rfl, T_ok, names_ok, (fun f F h => by cases h), (fun f F h => by cases h)⟩
def f53n (m : Nat) (a0 : (List (Cc 5))) : Option (List (Cc 5)) :=
 bnd (app 40 [] a0) fun v1 =>
 some v1
noncomputable abbrev X53n (n : Nat) : Cx := cxOf Proofs.Try.prog E0 53 n
theorem ok53n (m : Nat) (a0 : (List (Cc 5))) (o : (List (Cc 5))) (h : f53n m a0 = some o) (n : Nat) (hn : m + 1 ≤ n) : Fn Proofs.Try.prog E0 n 53 [.v (.sl .non (List.map (cc 5) a0))] ((eL (cc 5)) o) := by
 obtain ⟨n, rfl⟩ : ∃ q, n = q + 1 := ⟨n - 1, by omega⟩
 unfold f53n at h
 refine Fn.of (by kernel_rfl) (by kernel_rfl) (by kernel_rfl) ⟨(.v (.sl .non (List.map (cc 5) a0))) :: u7 [], []⟩ (by kernel_rfl) ?_
 refine Wp.sq ?_
 refine Wp.rg ?_
 refine Ops.sg 1 1 ?_
 refine Ops.dn ?_
 refine seqQ.n ?_
 refine Wp.sq ?_
 refine Wp.sq ?_
 refine Wp.rg ?_
 refine Ops.sg 1 1 ?_
 refine Ops.on 2 (fun h0 e0 => (nil_non (T := T) h0 26 54 .non (cc 5) a0 rfl (by kernel_rfl))) ?_
 refine Ops.dn ?_
 refine seqQ.n ?_
 refine Wp.condF [0, 2] 0 (by kernel_rfl) ?_
 refine Wp.sk ?_
 refine sqQ.n' ?_
 refine seqQ.n ?_
 refine Wp.sq ?_
 refine Wp.rg ?_
 refine Ops.sg 2 2 ?_
 obtain ⟨v1, ev1, h⟩ := bnd_some h
 refine Ops.on 3 (fun h0 e0 => (app_n (T := T) (g := .nonfull) h0 26 54 5 ti54 .non (cc 5) a0 v1 ev1 (by kernel_rfl) (by kernel_rfl) (by kernel_rfl) (by kernel_rfl) (fun x => x.2))) ?_
 refine Ops.sg 1 4 ?_
 refine Ops.dn ?_
 refine seqQ.n ?_
 refine Wp.ret (by kernel_rfl) ?_
 exact fnQ.r' (X53n n) (fun z => ((eL (cc 5)) z)) h (RetOk.mk' (appF .nonfull 0 (List.map (cc 5) v1)) (by kernel_rfl) (appD_frz _ _ _ _))
theorem clone53 : Is Proofs.Try.prog 53 ∧ ∀ vs r, cloneF 5 40 vs = some r → ∀ S w us, RelL S [] w us (vs.map .v) → (∀ b i, S b i → b < w.heap.size) → Glob S w →
  Calls Proofs.Try.prog 53 us w fun e w' => ∃ v S', e = .returned v ∧ Ext False S [] w S' [] w' ∧ HInv S' [] w' [] ∧ RelV S' w' v r := by
 refine clone_sound (good0 (DR := False)) ⟨.v (.sl .nil []), [], by kernel_rfl, by kernel_rfl⟩ fun es h1 h2 h3 => ?_
 obtain ⟨l, rfl⟩ := sub_list es h1
 have h4 : f53n 1 l = some l := by
  unfold f53n app
  rw [List.length_map] at h2 h3
  simp only [List.length_nil, Nat.zero_add, List.nil_append]
  rw [if_pos ⟨h2, h3⟩]
  rfl
 exact ok53n 1 l l h4 3 (by omega)
def f40n (m : Nat) (a0 : (List (Cc 2))) : Option (List (Cc 2)) :=
 bnd (app 16 [] a0) fun v1 =>
 some v1
noncomputable abbrev X40n (n : Nat) : Cx := cxOf Proofs.Try.prog E0 40 n
theorem ok40n (m : Nat) (a0 : (List (Cc 2))) (o : (List (Cc 2))) (h : f40n m a0 = some o) (n : Nat) (hn : m + 1 ≤ n) : Fn Proofs.Try.prog E0 n 40 [.v (.sl .non (List.map (cc 2) a0))] ((eL (cc 2)) o) := by
 obtain ⟨n, rfl⟩ : ∃ q, n = q + 1 := ⟨n - 1, by omega⟩
 unfold f40n at h
 refine Fn.of (by kernel_rfl) (by kernel_rfl) (by kernel_rfl) ⟨(.v (.sl .non (List.map (cc 2) a0))) :: u7 [], []⟩ (by kernel_rfl) ?_
 refine Wp.sq ?_
 refine Wp.rg ?_
 refine Ops.sg 1 1 ?_
 refine Ops.dn ?_
 refine seqQ.n ?_
 refine Wp.sq ?_
 refine Wp.sq ?_
 refine Wp.rg ?_
 refine Ops.sg 1 1 ?_
 refine Ops.on 2 (fun h0 e0 => (nil_non (T := T) h0 27 59 .non (cc 2) a0 rfl (by kernel_rfl))) ?_
 refine Ops.dn ?_
 refine seqQ.n ?_
 refine Wp.condF [0, 2] 0 (by kernel_rfl) ?_
 refine Wp.sk ?_
 refine sqQ.n' ?_
 refine seqQ.n ?_
 refine Wp.sq ?_
 refine Wp.rg ?_
 refine Ops.sg 2 2 ?_
 obtain ⟨v1, ev1, h⟩ := bnd_some h
 refine Ops.on 3 (fun h0 e0 => (app_n (T := T) (g := .nonfull) h0 27 59 2 ti59 .non (cc 2) a0 v1 ev1 (by kernel_rfl) (by kernel_rfl) (by kernel_rfl) (by kernel_rfl) (fun x => x.2))) ?_
 refine Ops.sg 1 4 ?_
 refine Ops.dn ?_
 refine seqQ.n ?_
 refine Wp.ret (by kernel_rfl) ?_
 exact fnQ.r' (X40n n) (fun z => ((eL (cc 2)) z)) h (RetOk.mk' (appF .nonfull 0 (List.map (cc 2) v1)) (by kernel_rfl) (appD_frz _ _ _ _))
theorem clone40 : Is Proofs.Try.prog 40 ∧ ∀ vs r, cloneF 2 16 vs = some r → ∀ S w us, RelL S [] w us (vs.map .v) → (∀ b i, S b i → b < w.heap.size) → Glob S w →
  Calls Proofs.Try.prog 40 us w fun e w' => ∃ v S', e = .returned v ∧ Ext False S [] w S' [] w' ∧ HInv S' [] w' [] ∧ RelV S' w' v r := by
 refine clone_sound (good0 (DR := False)) ⟨.v (.sl .nil []), [], by kernel_rfl, by kernel_rfl⟩ fun es h1 h2 h3 => ?_
 obtain ⟨l, rfl⟩ := sub_list es h1
 have h4 : f40n 1 l = some l := by
  unfold f40n app
  rw [List.length_map] at h2 h3
  simp only [List.length_nil, Nat.zero_add, List.nil_append]
  rw [if_pos ⟨h2, h3⟩]
  rfl
 exact ok40n 1 l l h4 3 (by omega)
def oraT1 (f : Nat) : Option (List V → Option V) := match f with
 | 53 => some (cloneF 5 40)
 | 40 => some (cloneF 2 16)
 | _ => none
def E1 : Env := { E0 with ora := oraT1 }
def oraT (f : Nat) : Option (List V → Option V) := match f with
 | f => oraT1 f
def oraDT (f : Nat) : Option (List D → List AObj → Option (D × List AObj)) := match f with
 | 34 => some (clnF 1 8)
 | 46 => some (growF 1 8)
 | _ => none
def E : Env := { E0 with ora := oraT, oraD := oraDT }
theorem isd46 : Is Proofs.Try.prog 46 := ⟨Proofs.Try.f46, Proofs.Try.func46, by kernel_rfl, by kernel_rfl⟩
theorem orad46 : DOk False Proofs.Try.prog 46 (growF 1 8) := grow46 isd46
theorem oraD_ok : DSound False Proofs.Try.prog E := by
 intro f F h
 have h : oraDT f = some F := h
 unfold oraDT at h
 split at h <;> first | (cases h; done) | skip
 ·cases h; exact orad34
 ·cases h; exact orad46
theorem ora1_ok : OSound False Proofs.Try.prog E1 := by
 intro f F h
 have h : oraT1 f = some F := h
 unfold oraT1 at h
 split at h <;> first | (cases h; done) | skip
 ·cases h; exact clone53
 ·cases h; exact clone40
theorem ora_ok : OSound False Proofs.Try.prog E := by
 intro f F h
 have h : oraT f = some F := h
 unfold oraT at h
 exact ora1_ok f F h
theorem good : Good False Proofs.Try.prog E := ⟨(good0 (DR := False)).mixed, T_ok, names_ok, ora_ok, oraD_ok⟩
structure S23 where
 fFrom : (List Int)
 fTo : (List Int)
 fLeft : (List Int)
 fRight : (List Int)
def e23 : S23 → V := fun x => (.agg [(vP eI x.fFrom), (vP eI x.fTo), (vP eI x.fLeft), (vP eI x.fRight)])
structure S53 where
 fFrom : Int
 fTo : Int
 fIn : Int
 fOut : Int
 fWeight : Int
def e53 : S53 → V := fun x => (.agg [(vI x.fFrom), (vI x.fTo), (vI x.fIn), (vI x.fOut), (vI x.fWeight)])
structure S58 where
 fState : Int
 fWeight : Int
def e58 : S58 → V := fun x => (.agg [(vI x.fState), (vI x.fWeight)])
structure S28 where
 fStates : Int
 fArcs : (List S53)
 fFinals : (List S58)
def e28 : S28 → V := fun x => (.agg [(vI x.fStates), (vP e53 x.fArcs), (vP e58 x.fFinals)])
structure S30 where
 fCode : Int
 fIndex : Int
def e30 : S30 → V := fun x => (.agg [(vI x.fCode), (vI x.fIndex)])
structure S45 where
 fR : S23
 fWhole : (List Int)
 fBack : (List Int)
structure S75 where
 fFit : Int
 fSince : Int
def e75 : S75 → V := fun x => (.agg [(vI x.fFit), (vI x.fSince)])
structure S79 where
 fFrom : Int
 fLabel : Int
 fTo : Int
 fOut : (List Int)
def e79 : S79 → V := fun x => (.agg [(vI x.fFrom), (vI x.fLabel), (vI x.fTo), (vP eI x.fOut)])
end Go.Abs
