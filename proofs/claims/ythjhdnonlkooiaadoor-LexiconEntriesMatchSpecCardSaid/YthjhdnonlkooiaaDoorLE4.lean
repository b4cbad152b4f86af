/-
  LEXICON ENTRIES: Entries as an oracle.
-/
import Derived.Test.YthjhdnonlkooiaaDoorLE3
namespace Go.Abs
open Go.Sort Go.Proofs
set_option linter.unusedVariables false
set_option maxRecDepth 100000

theorem calls_of_ht {DR : Prop} {P : Program} {f : Nat} {fn : Func} {c : Code} {T : Nat → Option TI} (hfn : P.funcs[f]? = some fn) (hc : fn.body = some c) (hT : ∀ t i, T t = some i → tiOf P t = some i) {xs : List V} {r : V} {N : Nat}
    (ht : Ht DR P (bodyOf P f) (startIn P f (xs.map .v) []) (fun e σ => (e = .normal ∨ e = .ret) ∧ ∃ d, resultsD T σ (resOf P f) = some d ∧ frz σ.heap N d = some r)) {S : Nat → Nat → Prop} {w : World} {us : Array Value} (hrel : RelL S [] w us (xs.map .v)) (hS : ∀ b i, S b i → b < w.heap.size) (hG : Glob S w) :
    Calls P f us w fun e w' => ∃ v S', e = .returned v ∧ Ext DR S [] w S' [] w' ∧ HInv S' [] w' [] ∧ RelV S' w' v r := by
  have hi := hinv_nil hS hG
  refine (callT_of_ht (Qc := fun d h' => frz h' N d = some r) hfn hc hT ht S [] w us hrel hi).mono ?_
  rintro e w' ⟨d, h', v, S1, β1, hz, rfl, hE1, hI1, hR1⟩
  have hin : ∀ b i, withOwn S1 β1 h' b i → S b i ∨ w.heap.size ≤ b := by
    intro b i hs
    rcases hs with hs | ⟨q, o, c, k, g1, g2, g3⟩
    · rcases hE1.stay b i hs with g | g | ⟨q, c, k, g⟩
      · exact .inl g
      · exact .inr g
      · simp at g
    · obtain ⟨k', rfl⟩ := hI1.kpos g1 g2 g3
      rcases hE1.fresh q b c k' g3 with g | ⟨q', c', k'', g⟩
      · exact .inr g
      · simp at g
  obtain ⟨b1, b2⟩ := back_from (S' := withOwn S1 β1 h') (h1 := h') hi hE1 (fun _ _ h => h) (fun b i hs => .inl (hE1.keeps b i hs).1) hin (own_sb hI1)
  exact ⟨v, _, rfl, b1, b2, frz_sound hI1 N _ _ _ hz hR1⟩

/-! ### what Entries computes -/
def MM : Nat := 60000
def zE : S61 := ⟨ByteArray.empty, ByteArray.empty, [], 0⟩
def isz (f : S27) : Bool := (f.fCode == 0) && ((f.fIndex == 0) && true)
def smallL (l : List S61) : Bool := decide (l.length ≤ 1000000) && l.all fun x => decide (x.fTags.length ≤ 50000)
def finE (found : List S61) : Option (List S61 × S27) := cnd (smallL found) (cnd (decide (((compactL (srtC cmpE found)).length : Int) > 300)) (some ([], ⟨17, -1⟩)) (some (compactL (srtC cmpE found), ⟨0, 0⟩))) none
def entriesL (l : S51) (most : Int) : Option (List S61 × S27) :=
  bnd (f52 MM l) fun f => cnd (!isz f) (some ([], f)) (cnd (decide (most < 1) || decide (most > 30)) (some ([], ⟨3, -2⟩)) (cnd (l.fClasses.all fun c => decide (c.fItems.length ≤ 1000000))
    (bnd (followL MM l most.toNat 0 zE ([], 0)) fun o => cnd (!o.1) (some ([], ⟨17, -1⟩)) (finE o.2.1)) none))

/-! ### how it ends -/
noncomputable def C27 : Code := bodyOf Proofs.Tryd.prog 27
def EQ (o : List S61 × S27) : Post := fun e σ => (e = .normal ∨ e = .ret) ∧ ∃ d, resultsD T σ (resOf Proofs.Tryd.prog 27) = some d ∧ frz σ.heap 15 d = some (.tuple [eL e61 o.1, e27 o.2])
theorem EQ.nil {f : S27} {σ : St} (h4 : σ.tmps.getD 4 .undef = .v (.sl .nil [])) (h5 : σ.tmps.getD 5 .undef = .ptr 1 0) (hh : σ.heap[1]? = some (.cells [dI f.fCode, dI f.fIndex])) : EQ ([], f) .ret σ := by
  have hr : resOf Proofs.Tryd.prog 27 = [.tmp 4, .cell 5 28] := by kernel_rfl
  refine ⟨.inr rfl, .v (.tuple [.sl .nil [], e27 f]), ?_, rfl⟩
  rw [hr]
  simp only [resultsD, allM, resultD, T, h4, h5, loadD, hh]
  rfl
theorem EQ.row {f : S27} {l : List S61} {q : Nat} {σ : St} (hl : l ≠ []) (h4 : σ.tmps.getD 4 .undef = .osl q 0 l.length false) (h5 : σ.tmps.getD 5 .undef = .ptr 1 0) (hh : σ.heap[1]? = some (.cells [dI f.fCode, dI f.fIndex])) (hq : σ.heap[q]? = some (.row 4 (l.map e61))) : EQ (l, f) .ret σ := by
  have hr : resOf Proofs.Tryd.prog 27 = [.tmp 4, .cell 5 28] := by kernel_rfl
  refine ⟨.inr rfl, .tuple [.osl q 0 l.length false, .v (e27 f)], ?_, ?_⟩
  · rw [hr]
    simp only [resultsD, allM, resultD, T, h4, h5, loadD, hh]
    rfl
  · have e1 : frz σ.heap 14 (.osl q 0 l.length false) = some (.sl .plain (l.map e61)) := by
      simp only [frz, hq]
      rw [if_pos (by rw [List.length_map]; omega), List.drop_zero, List.take_of_length_le (by rw [List.length_map]; exact Nat.le_refl _)]
    have e2 : frz σ.heap 14 (.v (e27 f)) = some (e27 f) := rfl
    show ((allM (frz σ.heap 14) [.osl q 0 l.length false, .v (e27 f)]).map V.tuple) = _
    simp only [allM, e1, e2, Option.map_some]
    rfl

/-! ### the sort -/
theorem sortE {n : Nat} {h : List AObj} {q : Nat} {l : List S61} (hne : l ≠ []) (hl : l.length ≤ 1000000) (ho : h[q]? = some (.row 4 (l.map e61))) :
    callD (XC n).E (GC n) 55 [.osl q 0 l.length false, .v (.fn 56)] h = some (U, h.set q (.row 4 ((srtC cmpE l).map e61))) := by
  have hp : (XC n).E.pureF 55 = false := by kernel_rfl
  have hpos : 0 < l.length := List.length_pos_iff.2 hne
  simp only [callD, hp, Bool.false_eq_true, if_false, GC, if_true, sortFnF, ho]
  rw [if_pos ⟨trivial, trivial, by rw [List.length_map], hpos, by omega⟩, allM_decE]
  rfl
theorem sortN {n : Nat} {h : List AObj} : callD (XC n).E (GC n) 55 [.v (.sl .nil []), .v (.fn 56)] h = some (U, h) := by
  have hp : (XC n).E.pureF 55 = false := by kernel_rfl
  simp only [callD, hp, Bool.false_eq_true, if_false, GC, if_true, sortFnF]
theorem is57 : Is Proofs.Tryd.prog 57 := ⟨Proofs.Tryd.f57, Proofs.Tryd.func57, by kernel_rfl, by kernel_rfl⟩
/-- CompactFunc of nothing -/
theorem call57n (n : Nat) (H : List AObj) : CallT False Proofs.Tryd.prog 57 [.v (.sl .nil []), .v (.fn 58)] H fun d h' => d = .v (.sl .nil []) ∧ h' = H := by
  have hr : resOf Proofs.Tryd.prog 57 = [.tmp 4] := by kernel_rfl
  refine callT_of_ht (c := C57) (T := T) Proofs.Tryd.func57 (by kernel_rfl) T_ok ?_
  show Ht False Proofs.Tryd.prog C57 _ _
  refine Ht.seq (by kernel_rfl) ?_
  refine Ht.region (hxC n) (by kernel_rfl) ?_
  refine Ops.seg' 1 1 (by kernel_rfl) ?_
  refine Ops.done (by kernel_rfl) ?_
  refine seqH.n ?_
  refine Ht.seq (by kernel_rfl) ?_
  refine Ht.seq (by kernel_rfl) ?_
  refine Ht.region (hxC n) (by kernel_rfl) ?_
  refine Ops.seg' 3 3 (by kernel_rfl) ?_
  refine Ops.done (by kernel_rfl) ?_
  refine seqH.n ?_
  refine Ht.cond true (by kernel_rfl) (by kernel_rfl) (fun _ => ?_) (fun hc => nomatch hc)
  refine Ht.seq (by kernel_rfl) ?_
  refine Ht.region (hxC n) (by kernel_rfl) ?_
  refine Ops.seg' 2 2 (by kernel_rfl) ?_
  refine Ops.done (by kernel_rfl) ?_
  refine seqH.n ?_
  refine Ht.ret (by kernel_rfl) ?_
  refine seqH.r ?_
  refine ⟨.inr rfl, .v (.sl .nil []), ?_, rfl, by kernel_rfl⟩
  have fin : ∀ σ : St, σ.tmps.getD 4 .undef = .v (.sl .nil []) → resultsD T σ (resOf Proofs.Tryd.prog 57) = some (.v (.sl .nil [])) := fun σ h4 => by
    rw [hr]; simp only [resultsD, allM, resultD, h4]
  exact fin _ (by kernel_rfl)

abbrev SE (H : List AObj) : St := Sm 47 [(4, .v (.sl .nil [])), (5, .ptr 1 0), (7, .ptr 3 0)] H
abbrev fZ : AObj := .cells [dI 0, dI 0]
/-- behind the walk, where entries were found -/
theorem end27 (n : Nat) (hn : n = MM + 30) (l : S51) (found : List S61) (steps : Int) (q : Nat) (H : List AObj) (hw : Wk H 3 q l found steps) (h1 : H[1]? = some fZ) (hq1 : found = [] ∨ q ≠ 1) (o : List S61 × S27) (ho : finE found = some o) :
    Ht False Proofs.Tryd.prog (cR (cR (cR (cR (cR C27))))) (SE H) (EQ o) := by
  unfold finE at ho
  rcases cnd_some ho with ⟨hs, ho⟩ | ⟨_, ho⟩
  case inr => cases ho
  unfold smallL at hs
  rw [Bool.and_eq_true, decide_eq_true_eq, List.all_eq_true] at hs
  obtain ⟨hlen, htag⟩ := hs
  by_cases hf : found = []
  · subst hf
    have e0 : compactL (srtC cmpE []) = [] := by simp [srtC, compactL]
    rw [e0] at ho
    have ho : o = ([], ⟨0, 0⟩) := (Option.some.inj ho).symm
    subst ho
    have hcell : H[3]? = some (.cells [dP e88 l.fClasses, .v (.sl .nil []), dI steps]) := hw.cell
    refine Ht.seq (by kernel_rfl) ?_
    refine Ht.region (hxC n) (by kernel_rfl) ?_
    refine Ops.seg' 3 3 (by kernel_rfl) ?_
    refine Ops.one' 4 (fun h0 e0 => (ldc (i := ti53) (h := h0) (r := 3) (off := 1) (cs := [dP e88 l.fClasses, .v (.sl .nil []), dI steps]) (d := .v (.sl .nil [])) (hq_of (g := H) (e0.trans (by kernel_rfl)) hcell) (by rfl))) (by kernel_rfl) (by kernel_rfl) ?_
    refine Ops.one' 5 (fun h0 e0 => sortN (n := n) (h := h0)) (by kernel_rfl) (by kernel_rfl) ?_
    refine Ops.done (by kernel_rfl) ?_
    refine seqH.n ?_
    refine Ht.seq (by kernel_rfl) ?_
    refine Ht.forget [4, 5, 7] (Ht.st (σ' := SE H) (by kernel_rfl) ?_)
    refine Ht.regionCall' (hxC n) 4 (t := 40) (args := [.tmp 39, .func 58]) (Qc := fun d h' => d = .v (.sl .nil []) ∧ h' = H) (by kernel_rfl) is57 ?_
    refine OpsU.seg' 3 3 (by kernel_rfl) ?_
    refine OpsU.one' 4 (fun h0 e0 => (ldc (i := ti53) (h := h0) (r := 3) (off := 1) (cs := [dP e88 l.fClasses, .v (.sl .nil []), dI steps]) (d := .v (.sl .nil [])) (hq_of (g := H) (e0.trans (by kernel_rfl)) hcell) (by rfl))) (by kernel_rfl) (by kernel_rfl) ?_
    refine OpsU.done ⟨CallT.of_eq (by kernel_rfl) (by kernel_rfl) (call57n n H), fun d h' hd => ?_⟩
    obtain ⟨rfl, rfl⟩ := hd
    refine Ops.seg' 1 6 (by kernel_rfl) ?_
    refine Ops.done (by kernel_rfl) ?_
    refine seqH.n ?_
    refine Ht.seq (by kernel_rfl) ?_
    refine Ht.seq (by kernel_rfl) ?_
    refine Ht.region (hxC n) (by kernel_rfl) ?_
    refine Ops.seg' 3 3 (by kernel_rfl) ?_
    refine Ops.done (by kernel_rfl) ?_
    refine seqH.n ?_
    refine Ht.cond false (by kernel_rfl) (by kernel_rfl) (fun hc => nomatch hc) (fun _ => ?_)
    refine Ht.skip (by kernel_rfl) ?_
    refine seqH.n ?_
    refine Ht.seq (by kernel_rfl) ?_
    refine Ht.region (hxC n) (by kernel_rfl) ?_
    refine Ops.seg' 3 3 (by kernel_rfl) ?_
    refine Ops.one' 4 (fun h0 e0 => (stc (i := ti28) (h := h0) (r := 1) (off := 0) (cs := [dI 0, dI 0]) (cs' := [dI 0, dI 0]) (x := .v (.agg [vI 0, vI 0])) (hq_of (g := h') (e0.trans (by kernel_rfl)) h1) (by rfl) (by rfl))) (by kernel_rfl) (by kernel_rfl) ?_
    refine Ops.done (by kernel_rfl) ?_
    refine seqH.n ?_
    refine Ht.ret (by kernel_rfl) ?_
    have hh : ∀ σ : St, σ.heap = h'.set 1 fZ → σ.heap[1]? = some fZ := fun σ e => by rw [e]; exact List.getElem?_set_self (lt_of_getElem? h1)
    exact EQ.nil (f := ⟨0, 0⟩) (by kernel_rfl) (by kernel_rfl) (hh _ (by kernel_rfl))
  · have hne : found.map e61 ≠ [] := by simpa using hf
    have hrow : H[q]? = some (.row 4 (found.map e61)) := by rw [← rowO_cons hne]; exact hw.row hf
    have hq3 := hw.ne hf
    have hq1 := hq1.resolve_left hf
    have hfd : fdD q found = .osl q 0 found.length false := by unfold fdD; rw [rowD_cons hne, List.length_map]
    have hcell : H[3]? = some (.cells [dP e88 l.fClasses, .osl q 0 found.length false, dI steps]) := by rw [← hfd]; exact hw.cell
    have hsl : (srtC cmpE found).length = found.length := (srtC_perm found).length_eq
    have hs1 : (hR H q (srtC cmpE found))[3]? = some (.cells [dP e88 l.fClasses, .osl q 0 found.length false, dI steps]) := gS hcell hq3
    have hql := lt_of_getElem? hrow
    have hs2 := hR_get hql (srtC cmpE found)
    have h11 : ∀ R, (hR H q R)[1]? = some fZ := fun R => gS h1 hq1
    refine Ht.seq (by kernel_rfl) ?_
    refine Ht.region (hxC n) (by kernel_rfl) ?_
    refine Ops.seg' 3 3 (by kernel_rfl) ?_
    refine Ops.one' 4 (fun h0 e0 => (ldc (i := ti53) (h := h0) (r := 3) (off := 1) (cs := [dP e88 l.fClasses, .osl q 0 found.length false, dI steps]) (d := .osl q 0 found.length false) (hq_of (g := H) (e0.trans (by kernel_rfl)) hcell) (by rfl))) (by kernel_rfl) (by kernel_rfl) ?_
    refine Ops.one' 5 (fun h0 e0 => sortE (n := n) (h := h0) hf hlen (hq_of (g := H) (e0.trans (by kernel_rfl)) hrow)) (by kernel_rfl) (by kernel_rfl) ?_
    refine Ops.done (by kernel_rfl) ?_
    refine seqH.n ?_
    refine Ht.seq (by kernel_rfl) ?_
    refine Ht.forget [4, 5, 7] (Ht.st (σ' := SE (hR H q (srtC cmpE found))) (by kernel_rfl) ?_)
    have hc57 : CallT False Proofs.Tryd.prog 57 [sD q found.length, .v (.fn 58)] (hR H q (srtC cmpE found)) fun d h' => d = sD q (compactL (srtC cmpE found)).length ∧ h' = hR (hR H q (srtC cmpE found)) q (compactL (srtC cmpE found)) := by
      rw [← hsl]
      exact call57 n _ q (srtC cmpE found) (by omega) (fun x hx => by
        have := of_decide_eq_true (htag x ((srtC_perm found).mem_iff.1 hx))
        subst hn; unfold MM; omega) (by subst hn; unfold MM; omega) hs2
    have hrr : ∀ a b, hR (hR H q a) q b = hR H q b := fun a b => by simp only [hR, List.set_set]
    simp only [hrr] at hc57
    refine Ht.regionCall' (hxC n) 4 (t := 40) (args := [.tmp 39, .func 58]) (Qc := fun d h' => d = sD q (compactL (srtC cmpE found)).length ∧ h' = hR H q (compactL (srtC cmpE found))) (by kernel_rfl) is57 ?_
    refine OpsU.seg' 3 3 (by kernel_rfl) ?_
    refine OpsU.one' 4 (fun h0 e0 => (ldc (i := ti53) (h := h0) (r := 3) (off := 1) (cs := [dP e88 l.fClasses, .osl q 0 found.length false, dI steps]) (d := .osl q 0 found.length false) (hq_of (g := hR H q (srtC cmpE found)) (e0.trans (by kernel_rfl)) hs1) (by rfl))) (by kernel_rfl) (by kernel_rfl) ?_
    refine OpsU.done ⟨CallT.of_eq (by kernel_rfl) (by kernel_rfl) hc57, fun d h' hd => ?_⟩
    obtain ⟨rfl, rfl⟩ := hd
    generalize hC : compactL (srtC cmpE found) = C at *
    have hCne : C ≠ [] := by
      subst hC
      intro h
      cases hx : srtC cmpE found with
      | nil => rw [hx] at hsl; exact hf (List.length_eq_zero_iff.1 hsl.symm)
      | cons a r => rw [hx] at h; cases h
    have hg1 := h11 C
    have hg2 := hR_get hql C
    generalize hR H q C = H5 at *
    refine Ops.seg' 1 6 (by kernel_rfl) ?_
    refine Ops.done (by kernel_rfl) ?_
    refine seqH.n ?_
    refine Ht.seq (by kernel_rfl) ?_
    refine Ht.seq (by kernel_rfl) ?_
    refine Ht.region (hxC n) (by kernel_rfl) ?_
    refine Ops.seg' 3 3 (by kernel_rfl) ?_
    refine Ops.done (by kernel_rfl) ?_
    refine seqH.n ?_
    refine Ht.cond (decide ((C.length : Int) > 300)) (by kernel_rfl) (by kernel_rfl) (fun hc => ?_) (fun hc => ?_)
    · rw [hc] at ho
      cases (cnd_t ho)
      refine Ht.seq (by kernel_rfl) ?_
      refine Ht.region (hxC n) (by kernel_rfl) ?_
      refine Ops.one' 1 (fun h0 e0 => callC (n := n) (h := h0) (f := 53) (by decide) (by kernel_rfl) (Args.v (vI 17) (eI 17) (by kernel_rfl) (Args.v (vI (-1)) (eI (-1)) (by kernel_rfl) Args.nil)) (ok53 MM 17 (-1) ⟨17, -1⟩ rfl n (by omega))) (by kernel_rfl) (by kernel_rfl) ?_
      refine Ops.seg' 1 2 (by kernel_rfl) ?_
      refine Ops.one' 3 (fun h0 e0 => (stc (i := ti28) (h := h0) (r := 1) (off := 0) (cs := [dI 0, dI 0]) (cs' := [dI 17, dI (-1)]) (x := .v (.agg [vI 17, vI (-1)])) (hq_of (g := H5) (e0.trans (by kernel_rfl)) hg1) (by rfl) (by rfl))) (by kernel_rfl) (by kernel_rfl) ?_
      refine Ops.done (by kernel_rfl) ?_
      refine seqH.n ?_
      refine Ht.ret (by kernel_rfl) ?_
      refine seqH.r ?_
      have hh : ∀ σ : St, σ.heap = H5.set 1 (.cells [dI 17, dI (-1)]) → σ.heap[1]? = some (.cells [dI 17, dI (-1)]) := fun σ e => by rw [e]; exact List.getElem?_set_self (lt_of_getElem? hg1)
      exact EQ.nil (f := ⟨17, -1⟩) (by kernel_rfl) (by kernel_rfl) (hh _ (by kernel_rfl))
    · rw [hc] at ho
      cases (cnd_f ho)
      refine Ht.skip (by kernel_rfl) ?_
      refine seqH.n ?_
      refine Ht.seq (by kernel_rfl) ?_
      refine Ht.region (hxC n) (by kernel_rfl) ?_
      refine Ops.seg' 3 3 (by kernel_rfl) ?_
      refine Ops.one' 4 (fun h0 e0 => (stc (i := ti28) (h := h0) (r := 1) (off := 0) (cs := [dI 0, dI 0]) (cs' := [dI 0, dI 0]) (x := .v (.agg [vI 0, vI 0])) (hq_of (g := H5) (e0.trans (by kernel_rfl)) hg1) (by rfl) (by rfl))) (by kernel_rfl) (by kernel_rfl) ?_
      refine Ops.done (by kernel_rfl) ?_
      refine seqH.n ?_
      refine Ht.ret (by kernel_rfl) ?_
      have hh : ∀ σ : St, σ.heap = H5.set 1 fZ → σ.heap[1]? = some fZ := fun σ e => by rw [e]; exact List.getElem?_set_self (lt_of_getElem? hg1)
      have hh2 : ∀ σ : St, σ.heap = H5.set 1 fZ → σ.heap[q]? = some (.row 4 (C.map e61)) := fun σ e => by rw [e]; exact gS hg2 (Ne.symm hq1)
      exact EQ.row (f := ⟨0, 0⟩) (q := q) hCne (by kernel_rfl) (by kernel_rfl) (hh _ (by kernel_rfl)) (hh2 _ (by kernel_rfl))
end Go.Abs
