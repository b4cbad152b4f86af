import Derived.Test.YtbeegandhppniaaAbsHC
import Derived.Test.YtbeegandhppniaaAbsM
import Derived.Test.YtbeegandhppniaaProg
import Derived.KernelRfl
namespace Go.Abs
open Go.Proofs
set_option linter.unusedVariables false
set_option linter.unusedSimpArgs false
set_option linter.unnecessarySimpa false
set_option maxRecDepth 100000
def clnF (k bytes : Nat) : List D → List AObj → Option (D × List AObj)
 | [.v (.sl fl xs)], h => if xs.length * bytes ≤ 140737488355328 ∧ xs.length ≤ maxLen ∧ headOk k xs = true then some (AG.d (AG.of .full xs) h.length xs, h ++ [AG.o (AG.of .full xs) k xs]) else none
 | _, _ => none
namespace Cln
def ti3 : TI := ⟨.int .i64, 1, 8, .int .i64 (0), true, []⟩
def ti4 : TI := ⟨.bool, 1, 1, .bool false, true, []⟩
def ti22 : TI := ⟨.slice 3, 1, 24, .sl .nil [], true, []⟩
def T (t : Nat) : Option TI := match t with
 | 3 => some ti3
 | 4 => some ti4
 | 22 => some ti22
 | _ => none
theorem T_ok : ∀ t i, T t = some i → tiOf Try.prog t = some i := by
 intro t i h
 unfold T at h
 split at h <;> first | (cases h; kernel_rfl) | (cases h; done)
def E : Env := { T := T, pureF := fun _ => false, keep := fun _ => ⟨fun _ => [], fun _ => [], fun _ => []⟩, acc := fun _ => [], rowF := fun _ => false, rowM := false, ora := fun _ => none, oraD := fun _ => none }
def X : Cx := ⟨E, fun _ _ _ => none, ⟨fun _ => [], fun _ => [], fun _ => []⟩, [], 0⟩
theorem hx : Hx False Try.prog X := ⟨by kernel_rfl, T_ok, fun f ds h d h' hh => nomatch hh⟩
theorem is34 : Is Try.prog 34 := ⟨Try.f34, Try.func34, by kernel_rfl, by kernel_rfl⟩
theorem app0 (h : List AObj) : appendD T false 22 h (.v (.sl .nonfull [])) (.v (.sl .non [])) = some (.v (.sl .nonfull []), h ++ [.dead]) := rfl
theorem app1 (h : List AObj) (x : V) (r : List V) (hb : (x :: r).length * 8 ≤ 140737488355328) (hl : (x :: r).length ≤ maxLen) (hk : headOk 1 (x :: r) = true) : appendD T false 22 h (.v (.sl .nonfull [])) (.v (.sl .non (x :: r))) = some (.tsl h.length (x :: r), h ++ [.tok 1 (x :: r).length]) := by
 have hT : T 22 = some ti22 := rfl
 have hT2 : T 3 = some ti3 := rfl
 have hkd : ti22.kind = .slice 3 := rfl
 unfold appendD
 simp only [hT, hkd, hT2]
 rw [if_neg (by decide)]
 have he : elemsOf ti3.size h (D.unt (.v (.sl .non (x :: r)))) = some (x :: r) := by
  show (if headOk 1 (x :: r) = true then _ else _) = _
  rw [if_pos hk]
 rw [he]
 have h8 : ti3.bytes = 8 := rfl
 have h1 : ti3.size = 1 := rfl
 show (if _ then _ else none) = _
 rw [if_pos (by
  simp only [Bool.and_eq_true, decide_eq_true_eq, h8, List.length_nil, Nat.zero_add]
  exact ⟨⟨⟨rfl, rfl⟩, hb⟩, hl⟩)]
 simp [h1]
theorem callT_z {xs : List V} {h : List AObj} (hb : xs.length * 8 ≤ 140737488355328) (hl : xs.length ≤ maxLen) (hk : headOk 1 xs = true) : CallT False Try.prog 34 [.v (.sl .non xs)] h fun d h' => (d = .v (.sl .nonfull []) ∧ xs = [] ∨ d = .tsl h.length xs ∧ xs ≠ []) ∧ h' = h ++ [AG.o (AG.of .full xs) 1 xs] := by
 have hr : resOf Try.prog 34 = [.tmp 2] := by kernel_rfl
 have fin : ∀ (σ : St) (d : D), σ.tmps.getD 2 .undef = d → resultsD T σ (resOf Try.prog 34) = some d := fun σ d h4 => by
  rw [hr]; simp only [resultsD, allM, resultD, h4]
 cases xs with
 | nil =>
  refine callT_of_ht (c := bodyOf Try.prog 34) (T := T) Try.func34 (by kernel_rfl) T_ok ?_
  refine Ht.seq (by kernel_rfl) ?_
  refine Ht.region hx (by kernel_rfl) ?_
  refine Ops.seg' 1 1 (by kernel_rfl) ?_
  refine Ops.done (by kernel_rfl) ?_
  refine seqH.n ?_
  refine Ht.seq (by kernel_rfl) ?_
  refine Ht.seq (by kernel_rfl) ?_
  refine Ht.region hx (by kernel_rfl) ?_
  refine Ops.seg' 2 2 (by kernel_rfl) ?_
  refine Ops.done (by kernel_rfl) ?_
  refine seqH.n ?_
  refine Ht.cond false (by kernel_rfl) (by kernel_rfl) (fun hc => nomatch hc) (fun _ => ?_)
  refine Ht.skip (by kernel_rfl) ?_
  refine seqH.n ?_
  refine Ht.seq (by kernel_rfl) ?_
  refine Ht.region hx (by kernel_rfl) ?_
  refine Ops.seg' 2 2 (by kernel_rfl) ?_
  refine Ops.one' 3 (fun h0 e0 => app0 h0) (by kernel_rfl) (by kernel_rfl) ?_
  refine Ops.seg' 1 4 (by kernel_rfl) ?_
  refine Ops.done (by kernel_rfl) ?_
  refine seqH.n ?_
  refine Ht.ret (by kernel_rfl) ?_
  exact ⟨.inr rfl, _, fin _ (.v (.sl .nonfull [])) (by kernel_rfl), .inl ⟨rfl, rfl⟩, by kernel_rfl⟩
 | cons x r =>
  refine callT_of_ht (c := bodyOf Try.prog 34) (T := T) Try.func34 (by kernel_rfl) T_ok ?_
  refine Ht.seq (by kernel_rfl) ?_
  refine Ht.region hx (by kernel_rfl) ?_
  refine Ops.seg' 1 1 (by kernel_rfl) ?_
  refine Ops.done (by kernel_rfl) ?_
  refine seqH.n ?_
  refine Ht.seq (by kernel_rfl) ?_
  refine Ht.seq (by kernel_rfl) ?_
  refine Ht.region hx (by kernel_rfl) ?_
  refine Ops.seg' 2 2 (by kernel_rfl) ?_
  refine Ops.done (by kernel_rfl) ?_
  refine seqH.n ?_
  refine Ht.cond false (by kernel_rfl) (by kernel_rfl) (fun hc => nomatch hc) (fun _ => ?_)
  refine Ht.skip (by kernel_rfl) ?_
  refine seqH.n ?_
  refine Ht.seq (by kernel_rfl) ?_
  refine Ht.region hx (by kernel_rfl) ?_
  refine Ops.seg' 2 2 (by kernel_rfl) ?_
  refine Ops.one' 3 (fun h0 e0 => app1 h0 x r hb hl hk) (by kernel_rfl) (by kernel_rfl) ?_
  refine Ops.seg' 1 4 (by kernel_rfl) ?_
  refine Ops.done (by kernel_rfl) ?_
  refine seqH.n ?_
  refine Ht.ret (by kernel_rfl) ?_
  exact ⟨.inr rfl, _, fin _ (.tsl h.length (x :: r)) (by kernel_rfl), .inr ⟨rfl, List.cons_ne_nil _ _⟩, by kernel_rfl⟩
theorem callT_n {h : List AObj} : CallT False Try.prog 34 [.v (.sl .nil [])] h fun d h' => d = .v (.sl .nil []) ∧ h' = h := by
 have hr : resOf Try.prog 34 = [.tmp 2] := by kernel_rfl
 have fin : ∀ (σ : St) (d : D), σ.tmps.getD 2 .undef = d → resultsD T σ (resOf Try.prog 34) = some d := fun σ d h4 => by
  rw [hr]; simp only [resultsD, allM, resultD, h4]
 refine callT_of_ht (c := bodyOf Try.prog 34) (T := T) Try.func34 (by kernel_rfl) T_ok ?_
 refine Ht.seq (by kernel_rfl) ?_
 refine Ht.region hx (by kernel_rfl) ?_
 refine Ops.seg' 1 1 (by kernel_rfl) ?_
 refine Ops.done (by kernel_rfl) ?_
 refine seqH.n ?_
 refine Ht.seq (by kernel_rfl) ?_
 refine Ht.seq (by kernel_rfl) ?_
 refine Ht.region hx (by kernel_rfl) ?_
 refine Ops.seg' 2 2 (by kernel_rfl) ?_
 refine Ops.done (by kernel_rfl) ?_
 refine seqH.n ?_
 refine Ht.cond true (by kernel_rfl) (by kernel_rfl) (fun _ => ?_) (fun hc => nomatch hc)
 refine Ht.seq (by kernel_rfl) ?_
 refine Ht.region hx (by kernel_rfl) ?_
 refine Ops.seg' 1 1 (by kernel_rfl) ?_
 refine Ops.done (by kernel_rfl) ?_
 refine seqH.n ?_
 refine Ht.ret (by kernel_rfl) ?_
 exact ⟨.inr rfl, .v (.sl .nil []), fin _ _ (by kernel_rfl), rfl, rfl⟩
end Cln
theorem rel_full {S : Nat → Nat → Prop} {β : Blocks} {w : World} {v : Value} {fl : SFlag} (hf : fl.isFull = true) (h : RelD S β w v (.v (.sl fl []))) : RelD S β w v (.v (.sl .full [])) := by
 have h := h.of_v
 refine .v _ _ ?_
 cases h with
 | slnil _ hn => exact .slnil _ (by decide)
 | slemp _ a cap h1 h2 h3 => exact .slemp _ a cap (by decide) (fun _ => h2 hf) h3
 | sl _ b off cap k n _ vals hn h1 h2 h3 h4 hk hs hr => exact .sl _ b off cap k n _ vals hn (by decide) (fun _ => h2 hf) h3 h4 hk hs hr
theorem orad34 : DOk False Try.prog 34 (clnF 1 8) := by
 refine ⟨Cln.is34, fun ds h d h' hd => ?_⟩
 unfold clnF at hd
 split at hd
 case h_2 => cases hd
 rename_i fl xs
 split at hd
 case isFalse => cases hd
 rename_i hc
 obtain ⟨hb, hl, hk⟩ := hc
 obtain ⟨rfl, rfl⟩ := Prod.mk.inj (Option.some.inj hd)
 intro S β w vs hr hi
 obtain ⟨v, rfl, hv⟩ := one_arg hr
 have hv := hv.of_v
 have non : RelV S w v (.sl .non xs) → Calls Try.prog 34 #[v] w fun e w' => ∃ v S' β', e = .returned v ∧ Ext False S β w S' β' w' ∧ HInv S' β' w' (h ++ [AG.o (AG.of .full xs) 1 xs]) ∧ RelD S' β' w' v (AG.d (AG.of .full xs) h.length xs) := by
  intro hv'
  refine (Cln.callT_z hb hl hk S β w #[v] ⟨rfl, fun i u d h1 h2 => ?_⟩ hi).mono ?_
  ·match i with
   | 0 => cases h1; cases h2; exact .v _ _ hv'
   | i + 1 => cases h2
  ·rintro e w' ⟨d, h', v', S', β', ⟨hd, rfl⟩, h2, h3, h4, h5⟩
   refine ⟨v', S', β', h2, h3, h4, ?_⟩
   rcases hd with ⟨rfl, rfl⟩ | ⟨rfl, hne⟩
   ·exact rel_full rfl h5
   ·cases xs with
    | nil => exact absurd rfl hne
    | cons x r => exact h5
 cases hv with
 | slnil _ hn =>
  refine (Cln.callT_n (h := h) S β w #[.slice none 0 0] ⟨rfl, fun i u d h1 h2 => ?_⟩ hi).mono ?_
  ·match i with
   | 0 => cases h1; cases h2; exact .v _ _ (.slnil _ (by decide))
   | i + 1 => cases h2
  ·rintro e w' ⟨d, h', v', S', β', ⟨rfl, rfl⟩, h2, h3, h4, h5⟩
   obtain ⟨e1, e2⟩ := h4.pad (DR := False)
   have h5 := h5.of_v
   refine ⟨v', S', _, h2, h3.trans e1, e2, .v _ _ ?_⟩
   cases h5 with
   | slnil _ hn => exact .slnil _ (by decide)
   | slemp _ a cap h1 h2 h3 => exact .slemp _ a cap (by decide) (fun _ => h2 rfl) h3
   | sl _ b off cap k n _ vals hn h1 h2 h3 h4 hk hs hr => exact .sl _ b off cap k n _ vals hn (by decide) (fun _ => h2 rfl) h3 h4 hk hs hr
 | slemp _ a cap h1 h2 h3 => exact non (.slemp _ a cap (by decide) (fun h => nomatch h) h3)
 | sl _ b off cap k n _ vals hn h1 h2 h3 h4 hk' hs hr => exact non (.sl _ b off cap k n _ vals hn (by decide) (fun h => nomatch h) h3 h4 hk' hs hr)
def cln (bytes : Nat) (n : Nat) : Option Unit := if n * bytes ≤ 140737488355328 ∧ n ≤ maxLen then some () else none
theorem row_clone {α : Type} (h : List AObj) (k bytes : Nat) (fl : SFlag) (f : α → V) (xs : List α) (u : Unit) (e : cln bytes xs.length = some u) (hf : ∀ x, (f x).cells.length = k) : clnF k bytes [.v (.sl fl (xs.map f))] h = some (AG.d (AG.of .full (xs.map f)) h.length (xs.map f), h ++ [AG.o (AG.of .full (xs.map f)) k (xs.map f)]) := by
 unfold cln at e
 split at e
 ·rename_i hc
  refine if_pos ⟨by rw [List.length_map]; exact hc.1, by rw [List.length_map]; exact hc.2, ?_⟩
  cases xs with
  | nil => rfl
  | cons x r => simp [headOk, hf]
 ·cases e
end Go.Abs
