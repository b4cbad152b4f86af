import Derived.Test.YtppipllchjpfmaaAbsW
import Derived.Test.YtppipllchjpfmaaAbsL
import Derived.Test.YtppipllchjpfmaaAbsN
import Derived.Test.YtppipllchjpfmaaProg
namespace Go.Abs
set_option linter.unusedVariables false
set_option maxRecDepth 100000
def ti3 : TI := ⟨.int .i64, 1, 8, .int .i64 (0), true⟩
def ti4 : TI := ⟨.bool, 1, 1, .bool false, true⟩
def ti22 : TI := ⟨.slice 29, 1, 24, .sl .nil [], true⟩
def ti23 : TI := ⟨.slice 3, 1, 24, .sl .nil [], true⟩
def ti26 : TI := ⟨.struct [(0, 3), (1, 3)], 2, 16, .agg [.int .i64 (0), .int .i64 (0)], true⟩
def ti29 : TI := ⟨.struct [(0, 23), (1, 23), (2, 23), (3, 23)], 4, 96, .agg [.sl .nil [], .sl .nil [], .sl .nil [], .sl .nil []], true⟩
def ti63 : TI := ⟨.slice 23, 1, 24, .sl .nil [], true⟩
def T (t : Nat) : Option TI := match t with
  | 3 => some ti3
  | 4 => some ti4
  | 22 => some ti22
  | 23 => some ti23
  | 26 => some ti26
  | 29 => some ti29
  | 63 => some ti63
  | _ => none
theorem T_ok : ∀ t i, T t = some i → tiOf Proofs.Try.prog t = some i := by
  intro t i h
  unfold T at h
  split at h <;> first | (cases h; kernel_rfl) | (cases h; done)
def loopT (f k : Nat) : List Nat := match f, k with
  | 24, 2 => [2, 5, 6, 7]
  | 11, 4 => [2, 10, 11, 12]
  | 39, 4 => [0, 1, 4, 12, 13]
  | 26, 3 => [1, 2, 4, 5, 6]
  | 12, 10 => [4, 5, 7, 26, 27, 28]
  | 14, 4 => [0, 1, 4, 12, 13]
  | 30, 4 => [1, 2, 21, 22, 23]
  | 30, 10 => [2, 39, 40, 41]
  | 30, 13 => [2, 39, 40, 41, 45, 46, 47]
  | 15, 4 => [2, 10, 11, 12]
  | 27, 4 => [1, 4, 12, 13, 14]
  | 41, 4 => [0, 1, 6, 20, 21, 22]
  | 28, 3 => [1, 2, 4, 5, 13, 14]
  | 28, 12 => [2, 4, 5, 8, 9]
  | 13, 9 => [4, 5, 8, 26, 27, 28]
  | _, _ => []
def condT (f k : Nat) : List Nat := match f, k with
  | 24, 8 => [2, 5, 6, 7]
  | 24, 16 => [2, 5, 6, 7]
  | 23, 30 => [1, 2]
  | 23, 52 => [2]
  | 11, 8 => [0, 2]
  | 11, 13 => [2, 10, 11, 12]
  | 11, 20 => [2, 10, 11, 12]
  | 25, 4 => [0, 2]
  | 39, 10 => [0, 1, 4]
  | 39, 14 => [0, 1, 4, 12, 13]
  | 39, 24 => [0, 1, 4, 12, 13]
  | 26, 11 => [1, 2, 4, 5, 6]
  | 26, 66 => [1, 2, 4, 5, 6]
  | 12, 14 => [0, 1, 4, 5]
  | 12, 18 => [0, 1, 4, 5]
  | 12, 22 => [0, 1, 4, 5]
  | 12, 29 => [4, 5, 7, 26, 27, 28]
  | 12, 38 => [4, 5, 7, 26, 27, 28]
  | 14, 10 => [0, 1, 4]
  | 14, 14 => [0, 1, 4, 12, 13]
  | 14, 24 => [0, 1, 4, 12, 13]
  | 30, 12 => [1, 2]
  | 30, 24 => [1, 2, 21, 22, 23]
  | 30, 29 => [1, 2, 21, 22, 23]
  | 30, 42 => [2, 39, 40, 41]
  | 30, 48 => [2, 39, 40, 41, 45, 46, 47]
  | 30, 56 => [2, 39, 40, 41, 45, 46, 47]
  | 15, 8 => [0, 2]
  | 15, 13 => [2, 10, 11, 12]
  | 15, 20 => [2, 10, 11, 12]
  | 27, 9 => [0, 1, 4]
  | 27, 15 => [1, 4, 12, 13, 14]
  | 27, 23 => [1, 4, 12, 13, 14]
  | 41, 19 => [0, 1, 2, 6]
  | 41, 23 => [0, 1, 6, 20, 21, 22]
  | 41, 34 => [0, 1, 6, 20, 21, 22]
  | 28, 15 => [1, 2, 4, 5, 13, 14]
  | 28, 33 => [1, 2, 4, 5, 6, 13, 14]
  | 28, 60 => [1, 2, 4, 5, 13, 14]
  | 28, 73 => [2, 4, 5, 8, 9]
  | 13, 15 => [0, 1, 4, 5]
  | 13, 21 => [0, 1, 4, 5]
  | 13, 29 => [4, 5, 8, 26, 27, 28]
  | 13, 38 => [4, 5, 8, 26, 27, 28]
  | 3, 17 => [0, 1, 4]
  | _, _ => []
def blkT (f k : Nat) : List Nat := match f, k with
  | 24, 0 => [2]
  | 24, 1 => [2, 5, 6, 7]
  | 11, 0 => [2]
  | 11, 1 => [2, 10, 11, 12]
  | 39, 0 => [4]
  | 39, 1 => [0, 1, 4, 12, 13]
  | 26, 0 => [4, 5]
  | 26, 1 => [1, 2, 4, 5, 6]
  | 12, 0 => [4, 5, 7]
  | 12, 1 => [4, 5, 7, 26, 27, 28]
  | 14, 0 => [4]
  | 14, 1 => [0, 1, 4, 12, 13]
  | 30, 0 => [1, 2]
  | 30, 1 => [1, 2, 21, 22, 23]
  | 30, 2 => [2]
  | 30, 3 => [2, 39, 40, 41]
  | 30, 4 => [2, 39, 40, 41]
  | 30, 5 => [2, 39, 40, 41, 45, 46, 47]
  | 15, 0 => [2]
  | 15, 1 => [2, 10, 11, 12]
  | 27, 0 => [4]
  | 27, 1 => [1, 4, 12, 13, 14]
  | 41, 0 => [6]
  | 41, 1 => [0, 1, 6, 20, 21, 22]
  | 28, 0 => [1, 2, 4, 5]
  | 28, 1 => [1, 2, 4, 5, 13, 14]
  | 28, 2 => [4, 8]
  | 28, 3 => [2, 4, 5, 8, 9]
  | 13, 0 => [4, 5, 8]
  | 13, 1 => [4, 5, 8, 26, 27, 28]
  | _, _ => []
def accT (f : Nat) : List Nat := match f with
  | 13 => [8]
  | 25 => [2]
  | 26 => [5]
  | 28 => [5, 8]
  | _ => []
def E0 : Env := { T := T, pureF := fun _ => true, thawF := fun _ => false, keep := fun f => ⟨loopT f, condT f, blkT f⟩, acc := accT, rowF := fun _ => false, rowM := false, ora := fun _ => none }
theorem names_ok : ∀ (f : Nat) fn, Proofs.Try.prog.funcs[f]? = some fn → (fn.name == "runtime.NumGoroutine") = false := by
  intro f fn h
  have hall : (Proofs.Try.prog.funcs.toList.all fun fn => !(fn.name == "runtime.NumGoroutine")) = true := by kernel_rfl
  have := List.all_eq_true.1 hall fn (List.mem_of_getElem? (by simpa using h))
  simpa using this
theorem good0 : Good Proofs.Try.prog E0 := ⟨by kernel_rfl, T_ok, names_ok, fun f F h => by cases h⟩
/-! ### 25 slices.Clone[[]int,int] -/
def f25n (m : Nat) (a0 : (List (Cc 1))) : Option (List (Cc 1)) :=
  bnd (app 8 [] a0) fun v1 =>
  some v1
noncomputable abbrev X25n (n : Nat) : Cx := cxOf Proofs.Try.prog E0 25 n
noncomputable def C25n : Code := bodyOf Proofs.Try.prog 25
theorem ok25n (m : Nat) (a0 : (List (Cc 1))) (o : (List (Cc 1))) (h : f25n m a0 = some o) (n : Nat) (hn : m + 1 ≤ n) : Fn Proofs.Try.prog E0 n 25 [(.sl .non (List.map (cc 1) a0))] ((eL (cc 1)) o) := by
  obtain ⟨n, rfl⟩ : ∃ q, n = q + 1 := ⟨n - 1, by omega⟩
  unfold f25n at h
  refine Fn.of (by kernel_rfl) (by kernel_rfl) ⟨(.v (.sl .non (List.map (cc 1) a0))) :: u7 [], []⟩ (by kernel_rfl) ?_
  refine Wp.seq (subc [0] C25n) (subc [1] C25n) (by kernel_rfl) ?_
  refine Wp.region (by kernel_rfl) ?_
  refine Ops.seg 1 1 (by kernel_rfl) ⟨(.v (.sl .non (List.map (cc 1) a0))) :: u1 ((.v (.sl .nil (List.map (cc 1) []))) :: u5 []), []⟩ (by kernel_rfl) ?_
  refine Ops.done (by kernel_rfl) ?_
  refine seqQ.n ?_
  refine Wp.seq (subc [1, 0] C25n) (subc [1, 1] C25n) (by kernel_rfl) ?_
  refine Wp.seq (subc [1, 0, 0] C25n) (subc [1, 0, 1] C25n) (by kernel_rfl) ?_
  refine Wp.region (by kernel_rfl) ?_
  refine Ops.seg 1 1 (by kernel_rfl) ⟨(.v (.sl .non (List.map (cc 1) a0))) :: u1 ((.v (.sl .nil (List.map (cc 1) []))) :: (.v (.sl .non (List.map (cc 1) a0))) :: u4 []), []⟩ (by kernel_rfl) ?_
  refine Ops.one 2 (by kernel_rfl) ((binD (X25n n).E.T .eql 23 (D.unt (.v (.sl .non (List.map (cc 1) a0)))) (D.unt (.v (.sl .nil [])))).map (·, [])) (dB false) [] ⟨(.v (.sl .non (List.map (cc 1) a0))) :: u1 ((.v (.sl .nil (List.map (cc 1) []))) :: (.v (.sl .non (List.map (cc 1) a0))) :: (dB false) :: u3 []), []⟩ (by kernel_rfl) (nil_non _ 23 3 .non (cc 1) a0 rfl (by kernel_rfl)) (by kernel_rfl) ?_
  refine Ops.done (by kernel_rfl) ?_
  refine seqQ.n ?_
  refine Wp.cond false [0, 2] (by kernel_rfl) 0 (by kernel_rfl) (subc [1, 0, 1, 0] C25n) (subc [1, 0, 1, 1] C25n) (by kernel_rfl) (by kernel_rfl) (fun e => nomatch e) (fun _ => ?_)
  refine Wp.skip (by kernel_rfl) ?_
  refine sqQ.n ⟨(.v (.sl .non (List.map (cc 1) a0))) :: q1 ((.v (.sl .nil (List.map (cc 1) []))) :: q5 []), [.dead]⟩ (by kernel_rfl) ?_
  refine seqQ.n ?_
  refine Wp.seq (subc [1, 1, 0] C25n) (subc [1, 1, 1] C25n) (by kernel_rfl) ?_
  refine Wp.region (by kernel_rfl) ?_
  refine Ops.seg 2 2 (by kernel_rfl) ⟨(.v (.sl .non (List.map (cc 1) a0))) :: q1 ((.v (.sl .nil (List.map (cc 1) []))) :: q2 ((.v (.sl .nonfull (List.map (cc 1) []))) :: (.v (.sl .non (List.map (cc 1) a0))) :: q1 [])), [.dead]⟩ (by kernel_rfl) ?_
  obtain ⟨v1, ev1, h⟩ := bnd_some h
  refine Ops.one 3 (by kernel_rfl) (appendD (X25n n).E.T false 23 [.dead] (.v (.sl .nonfull (List.map (cc 1) []))) (.v (.sl .non (List.map (cc 1) a0)))) (appF .nonfull 1 (List.map (cc 1) v1)) [.dead, (appO 1 (List.map (cc 1) v1))] ⟨(.v (.sl .non (List.map (cc 1) a0))) :: q1 ((.v (.sl .nil (List.map (cc 1) []))) :: q2 ((.v (.sl .nonfull (List.map (cc 1) []))) :: (.v (.sl .non (List.map (cc 1) a0))) :: (appF .nonfull 1 (List.map (cc 1) v1)) :: [])), [.dead, (appO 1 (List.map (cc 1) v1))]⟩ (by kernel_rfl) (app_n _ 23 3 1 ti3 .non (cc 1) a0 v1 ev1 (by kernel_rfl) (by kernel_rfl) (by kernel_rfl) (by kernel_rfl) (fun x => x.2)) (by kernel_rfl) ?_
  refine Ops.seg 1 4 (by kernel_rfl) ⟨(.v (.sl .non (List.map (cc 1) a0))) :: q1 ((appF .nonfull 1 (List.map (cc 1) v1)) :: q2 ((.v (.sl .nonfull (List.map (cc 1) []))) :: (.v (.sl .non (List.map (cc 1) a0))) :: (appF .nonfull 1 (List.map (cc 1) v1)) :: [])), [.dead, (appO 1 (List.map (cc 1) v1))]⟩ (by kernel_rfl) ?_
  refine Ops.done (by kernel_rfl) ?_
  refine seqQ.n ?_
  refine Wp.ret (by kernel_rfl) ?_
  exact fnQ.r' (X25n n) (fun z => ((eL (cc 1)) z)) h (RetOk.mk' (appF .nonfull 1 (List.map (cc 1) v1)) (by kernel_rfl) (appD_frz _ _ _ _))
theorem clone25 : Is Proofs.Try.prog 25 ∧ ∀ vs r, cloneF 1 8 vs = some r → ∀ S w us, RelL S [] w us (vs.map .v) → (∀ b i, S b i → b < w.heap.size) →
    Calls Proofs.Try.prog 25 us w fun e w' => ∃ v S', e = .returned v ∧ Ext S [] w S' [] w' ∧ HInv S' [] w' [] ∧ RelV S' w' v r := by
  refine clone_sound good0 ⟨.v (.sl .nil []), [], by kernel_rfl, by kernel_rfl⟩ fun es h1 h2 h3 => ?_
  obtain ⟨l, rfl⟩ := sub_list es h1
  have h4 : f25n 1 l = some l := by
    unfold f25n app
    rw [List.length_map] at h2 h3
    simp only [List.length_nil, Nat.zero_add, List.nil_append]
    rw [if_pos ⟨h2, h3⟩]
    rfl
  exact ok25n 1 l l h4 3 (by omega)

def oraT (f : Nat) : Option (List V → Option V) := match f with
  | 25 => some (cloneF 1 8)
  | _ => none
def E : Env := { E0 with ora := oraT }
theorem ora_ok : OSound Proofs.Try.prog E := by
  intro f F h
  have h : oraT f = some F := h
  unfold oraT at h
  split at h <;> first | (cases h; done) | skip
  · cases h; exact clone25
theorem good : Good Proofs.Try.prog E := ⟨good0.mixed, T_ok, names_ok, ora_ok⟩
structure S25 where
  fCode : Int
  fIndex : Int
def e25 : S25 → V := fun x => (.agg [(vI x.fCode), (vI x.fIndex)])
structure S28 where
  fFrom : (List Int)
  fTo : (List Int)
  fLeft : (List Int)
  fRight : (List Int)
def e28 : S28 → V := fun x => (.agg [(vP eI x.fFrom), (vP eI x.fTo), (vP eI x.fLeft), (vP eI x.fRight)])
end Go.Abs
