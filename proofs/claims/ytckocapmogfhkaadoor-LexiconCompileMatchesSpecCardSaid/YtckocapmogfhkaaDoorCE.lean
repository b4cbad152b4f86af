import Derived.Test.YtckocapmogfhkaaDoorCE1
namespace Go.Abs
open Go.Sort Go.Proofs
set_option linter.unusedVariables false
set_option maxRecDepth 100000
theorem is14 : Is Proofs.Tryd.prog 14 := ⟨Proofs.Tryd.f14, Proofs.Tryd.func14, by kernel_rfl, by kernel_rfl⟩
theorem call14n (n : Nat) (H : List AObj) : CallT False Proofs.Tryd.prog 14 [.v (.sl .nil [])] H fun d h' => d = .v (.sl .nil []) ∧ h' = H := by
 have hr : resOf Proofs.Tryd.prog 14 = [.tmp 2] := by kernel_rfl
 refine callT_of_ht (c := C14) (T := T) Proofs.Tryd.func14 (by kernel_rfl) T_ok ?_
 show Ht False Proofs.Tryd.prog C14 _ _
 refine Ht.seq (by kernel_rfl) ?_
 refine Ht.region (hxC n) (by kernel_rfl) ?_
 refine Ops.seg' 1 1 (by kernel_rfl) ?_
 refine Ops.done (by kernel_rfl) ?_
 refine seqH.n ?_
 refine Ht.seq (by kernel_rfl) ?_
 refine Ht.seq (by kernel_rfl) ?_
 refine Ht.region (hxC n) (by kernel_rfl) ?_
 refine Ops.seg' 3 3 (by kernel_rfl) ?_
 refine Ops.done (by kernel_rfl) ?_
 refine seqH.n ?_
 refine Ht.cond true (by kernel_rfl) (by kernel_rfl) (fun _ => ?_) (fun hc => nomatch hc)
 refine Ht.seq (by kernel_rfl) ?_
 refine Ht.region (hxC n) (by kernel_rfl) ?_
 refine Ops.seg' 2 2 (by kernel_rfl) ?_
 refine Ops.done (by kernel_rfl) ?_
 refine seqH.n ?_
 refine Ht.ret (by kernel_rfl) ?_
 refine seqH.r ?_
 refine ⟨.inr rfl, .v (.sl .nil []), ?_, rfl, by kernel_rfl⟩
 have fin : ∀ σ : St, σ.tmps.getD 2 .undef = .v (.sl .nil []) → resultsD T σ (resOf Proofs.Tryd.prog 14) = some (.v (.sl .nil [])) := fun σ h4 => by
  rw [hr]; simp only [resultsD, allM, resultD, h4]
 exact fin _ (by kernel_rfl)
def compactA : List D → List AObj → Option (D × List AObj)
 | [.osl r 0 len false], h => match h[r]? with
  | some (.row k es) => if k = 5 ∧ len = es.length ∧ len ≤ 1000000 then (allM decA es).map fun l => (.osl r 0 (compactL l).length false, h.set r (.row 5 ((compactL l).map e40))) else none
  | _ => none
 | [.v (.sl .nil [])], h => some (.v (.sl .nil []), h)
 | _, _ => none
theorem compact14 : DOk False Proofs.Tryd.prog 14 compactA := by
 refine ⟨is14, fun ds h d h' hd S β w vs hrel hi => ?_⟩
 unfold compactA at hd
 split at hd
 ·rename_i h0 r len
  split at hd
  case h_2 => cases hd
  rename_i k es hes
  split at hd
  case isFalse => cases hd
  rename_i hc
  obtain ⟨rfl, rfl, hb⟩ := hc
  obtain ⟨l, hl, he⟩ := Option.map_eq_some_iff.1 hd
  obtain ⟨rfl, rfl⟩ := Prod.mk.inj he
  have hes' := allM_dec (fun _ _ h => decA_spec h) hl
  subst hes'
  rw [List.length_map] at hrel hb
  refine (call14 0 h r l hb hes S β w vs hrel hi).mono ?_
  rintro e w' ⟨d, h', v, S', β', ⟨rfl, rfl⟩, rfl, h1, h2, h3⟩
  exact ⟨v, S', β', rfl, h1, h2, h3⟩
 ·rename_i h0
  cases hd
  refine (call14n 0 h S β w vs hrel hi).mono ?_
  rintro e w' ⟨d, h', v, S', β', ⟨rfl, rfl⟩, rfl, h1, h2, h3⟩
  exact ⟨v, S', β', rfl, h1, h2, h3⟩
 ·cases hd
def cmpct14 (xs : List S40) : Option (List S40) := if xs.length ≤ 1000000 then some (compactL xs) else none
theorem row_compact14 (h : List AObj) (q : Nat) (xs zs : List S40) (hx : cmpct14 xs = some zs) (hq : h[q]? = some (rowO 5 (xs.map e40))) : compactA [rowF .nil q (xs.map e40)] h = some (rowF .nil q (zs.map e40), h.set q (rowO 5 (zs.map e40))) := by
 unfold cmpct14 at hx
 split at hx <;> try (cases hx; done)
 rename_i hbig
 cases hx
 cases xs with
 | nil =>
  simp only [List.map_nil, rowF, rowO, compactA, compactL] at hq ⊢
  rw [set_same hq]
 | cons x r =>
  have h1 : rowF .nil q ((x :: r).map e40) = .osl q 0 ((x :: r).map e40).length false := rfl
  have h2 : rowO 5 ((x :: r).map e40) = .row 5 ((x :: r).map e40) := rfl
  rw [h2] at hq
  rw [h1]
  simp only [compactA, hq]
  rw [if_pos ⟨trivial, trivial, by rw [List.length_map]; exact hbig⟩, allM_decA, Option.map_some]
  simp only [compactL, List.map_cons, rowF, rowO, List.length_cons, List.length_map]
def oraDG (f : Nat) : Option (List D → List AObj → Option (D × List AObj)) := match f with
 | 12 => some sortA
 | 14 => some compactA
 | f => oraDT f
def EG : Env := { E with oraD := oraDG }
theorem oraDG_ok : DSound False Proofs.Tryd.prog EG := by
 intro f F h
 have h : oraDG f = some F := h
 unfold oraDG at h
 split at h
 ·cases h; exact sort12
 ·cases h; exact compact14
 ·exact oraD_ok f F h
theorem goodG : Good False Proofs.Tryd.prog EG := ⟨good.mixed, T_ok, names_ok, ora_ok, oraDG_ok⟩
end Go.Abs
