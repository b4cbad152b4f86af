/-
  LEXICON ENTRIES: Entries in the environment of all that stands above it.
-/
import Derived.Test.YthjhdnonlkooiaaDoorLE4
namespace Go.Abs
open Go.Sort Go.Proofs
set_option linter.unusedVariables false
set_option maxRecDepth 100000

abbrev h27 (l : S51) (f : S27) : List AObj := [.cells [dP e88 l.fClasses], fZ, .cells [dI f.fCode, dI f.fIndex]]
abbrev SA (l : S51) (most : Int) (H : List AObj) : St := Sm 47 [(1, dI most), (2, .ptr 0 0), (4, .v (.sl .nil [])), (5, .ptr 1 0)] H
/-- a fault is handed back -/
theorem bad27 (n : Nat) (hn : n = MM + 30) (l : S51) (most : Int) (f : S27) {Q : Post} (hQ : ∀ σ, EQ ([], ⟨3, -2⟩) .ret σ → Q .ret σ) : Ht False Proofs.Tryd.prog (cL (cR (cL (cR (cR C27))))) (SA l most (h27 l f)) Q := by
  refine Ht.seq (by kernel_rfl) ?_
  refine Ht.region (hxC n) (by kernel_rfl) ?_
  refine Ops.one' 1 (fun h0 e0 => callC (n := n) (h := h0) (f := 53) (by decide) (by kernel_rfl) (Args.v (vI 3) (eI 3) (by kernel_rfl) (Args.v (vI (-2)) (eI (-2)) (by kernel_rfl) Args.nil)) (ok53 MM 3 (-2) ⟨3, -2⟩ rfl n (by omega))) (by kernel_rfl) (by kernel_rfl) ?_
  refine Ops.seg' 2 3 (by kernel_rfl) ?_
  refine Ops.done (by kernel_rfl) ?_
  refine seqH.n ?_
  refine Ht.ret (by kernel_rfl) ?_
  exact hQ _ (EQ.nil (f := ⟨3, -2⟩) (by kernel_rfl) (by kernel_rfl) (by kernel_rfl))
theorem CallT.plain4 {DR : Prop} {P : Program} {f : FuncId} {a b c : D} {x : V} {h : List AObj} {Q : D → List AObj → Prop} (hc : CallT DR P f [a, b, c, .v (plainV x)] h Q) : CallT DR P f [a, b, c, .v x] h Q := by
  intro S β w vs hr hi
  refine hc S β w vs ⟨hr.1, fun i v d h1 h2 => ?_⟩ hi
  match i, h2 with
  | 0, h2 => exact hr.2 0 v d h1 h2
  | 1, h2 => exact hr.2 1 v d h1 h2
  | 2, h2 => exact hr.2 2 v d h1 h2
  | 3, h2 =>
    simp at h2
    subst h2
    exact .v _ _ (hr.2 3 v (.v x) h1 rfl).of_v.plainV
  | i + 4, h2 => simp at h2
theorem good27 (n : Nat) (hn : n = MM + 30) (l : S51) (most : Int) (f : S27) (o : List S61 × S27) (h1 : 1 ≤ most) (h30 : most ≤ 30)
    (ho : cnd (l.fClasses.all fun c => decide (c.fItems.length ≤ 1000000)) (bnd (followL MM l most.toNat 0 zE ([], 0)) fun o => cnd (!o.1) (some ([], (⟨17, -1⟩ : S27))) (finE o.2.1)) none = some o) :
    Ht False Proofs.Tryd.prog (cR (cR (cR C27))) (SA l most (h27 l f)) (EQ o) := by
  rcases cnd_some ho with ⟨hil, ho⟩ | ⟨_, ho⟩
  case inr => cases ho
  obtain ⟨p, hp, ho⟩ := bnd_some ho
  have hil' : ∀ c ∈ l.fClasses, c.fItems.length ≤ 1000000 := fun c hc => of_decide_eq_true (List.all_eq_true.1 hil c hc)
  have hmost : ((most.toNat : Nat) : Int) = most := by omega
  refine Ht.seq (by kernel_rfl) ?_
  refine Ht.region (hxC n) (by kernel_rfl) ?_
  refine Ops.seg' 4 4 (by kernel_rfl) ?_
  refine Ops.done (by kernel_rfl) ?_
  refine seqH.n ?_
  let H : List AObj := [.cells [dP e88 l.fClasses], fZ, .cells [dI f.fCode, dI f.fIndex], .cells [dP e88 l.fClasses, .v (.sl .nil []), dI 0]]
  have hw : Wk H 3 0 l [] 0 := ⟨rfl, fun h => absurd rfl h, fun h => absurd rfl h⟩
  have hcall := follow54 MM n (by omega) l hil' most.toNat (by omega) 0 zE ([], 0) p hp H 3 0 (by show 3 < 4; omega) hw
  rw [hmost] at hcall
  have hcall := hcall.plain4 (x := .agg [.str ByteArray.empty, .str ByteArray.empty, .sl .nil [], .int .i64 0])
  refine Ht.forget [1, 2, 4, 5, 7] (Ht.st (σ' := Sm 47 [(1, dI most), (2, .ptr 0 0), (4, .v (.sl .nil [])), (5, .ptr 1 0), (7, .ptr 3 0)] H) (by kernel_rfl) ?_)
  refine Ht.seq (by kernel_rfl) ?_
  refine Ht.seq (by kernel_rfl) ?_
  refine Ht.regionCall' (hxC n) 3 (t := 28) (args := [.tmp 25, .const (.int .i64 0), .tmp 26, .tmp 27]) (Qc := fun d h' => d = dB p.1 ∧ FPost l H 3 0 [] h' p.2) (by kernel_rfl) is54 ?_
  refine OpsU.seg' 3 3 (by kernel_rfl) ?_
  refine OpsU.done ⟨CallT.of_eq (by kernel_rfl) (by kernel_rfl) hcall, fun d h' hd => ?_⟩
  obtain ⟨rfl, q, w1, w2, w3, w4⟩ := hd
  have hg1 : h'[1]? = some fZ := by rw [w3 1 (by show 1 < 4; omega) (by decide) (.inl rfl)]; rfl
  refine Ops.seg' 1 5 (by kernel_rfl) ?_
  refine Ops.done (by kernel_rfl) ?_
  refine seqH.n ?_
  refine Ht.cond (!p.1) (by kernel_rfl) (by kernel_rfl) (fun hc => ?_) (fun hc => ?_)
  · rw [hc] at ho
    cases (cnd_t ho)
    refine Ht.seq (by kernel_rfl) ?_
    refine Ht.region (hxC n) (by kernel_rfl) ?_
    refine Ops.one' 1 (fun h0 e0 => callC (n := n) (h := h0) (f := 53) (by decide) (by kernel_rfl) (Args.v (vI 17) (eI 17) (by kernel_rfl) (Args.v (vI (-1)) (eI (-1)) (by kernel_rfl) Args.nil)) (ok53 MM 17 (-1) ⟨17, -1⟩ rfl n (by omega))) (by kernel_rfl) (by kernel_rfl) ?_
    refine Ops.seg' 1 2 (by kernel_rfl) ?_
    refine Ops.one' 3 (fun h0 e0 => (stc (i := ti28) (h := h0) (r := 1) (off := 0) (cs := [dI 0, dI 0]) (cs' := [dI 17, dI (-1)]) (x := .v (.agg [vI 17, vI (-1)])) (hq_of (g := h') (e0.trans (by kernel_rfl)) hg1) (by rfl) (by rfl))) (by kernel_rfl) (by kernel_rfl) ?_
    refine Ops.done (by kernel_rfl) ?_
    refine seqH.n ?_
    refine Ht.ret (by kernel_rfl) ?_
    refine seqH.r ?_
    have hh : ∀ σ : St, σ.heap = h'.set 1 (.cells [dI 17, dI (-1)]) → σ.heap[1]? = some (.cells [dI 17, dI (-1)]) := fun σ e => by rw [e]; exact List.getElem?_set_self (lt_of_getElem? hg1)
    exact EQ.nil (f := ⟨17, -1⟩) (by kernel_rfl) (by kernel_rfl) (hh _ (by kernel_rfl))
  · rw [hc] at ho
    have ho := cnd_f ho
    refine Ht.skip (by kernel_rfl) ?_
    refine seqH.n ?_
    refine Ht.forget [4, 5, 7] (Ht.st (σ' := SE h') (by kernel_rfl) ?_)
    refine end27 n hn l p.2.1 p.2.2 q h' w1 hg1 ?_ o ho
    rcases w4 with h | ⟨_, h⟩ | h
    · exact .inl h
    · exact absurd rfl h
    · have : H.length = 4 := rfl
      exact .inr (by omega)
theorem range27 (n : Nat) (hn : n = MM + 30) (l : S51) (most : Int) (f : S27) (o : List S61 × S27)
    (ho : cnd (decide (most < 1) || decide (most > 30)) (some ([], (⟨3, -2⟩ : S27))) (cnd (l.fClasses.all fun c => decide (c.fItems.length ≤ 1000000))
      (bnd (followL MM l most.toNat 0 zE ([], 0)) fun o => cnd (!o.1) (some ([], ⟨17, -1⟩)) (finE o.2.1)) none) = some o) :
    Ht False Proofs.Tryd.prog (cR (cR C27)) (SA l most (h27 l f)) (EQ o) := by
  refine Ht.seq (by kernel_rfl) ?_
  refine Ht.seq (by kernel_rfl) ?_
  refine Ht.region (hxC n) (by kernel_rfl) ?_
  refine Ops.seg' 2 2 (by kernel_rfl) ?_
  refine Ops.st (Sm 47 [(1, dI most), (2, .ptr 0 0), (4, .v (.sl .nil [])), (5, .ptr 1 0), (15, dI most), (16, dB (decide (most < 1)))] (h27 l f)) (by kernel_rfl) ?_
  by_cases h1 : most < 1
  · rw [decide_eq_true h1] at ho ⊢
    rw [Bool.true_or] at ho
    cases (cnd_t ho)
    refine Ops.seg' 4 6 (by kernel_rfl) ?_
    refine Ops.done (by kernel_rfl) ?_
    refine seqH.n ?_
    refine Ht.cond true (by kernel_rfl) (by kernel_rfl) (fun _ => ?_) (fun hc => nomatch hc)
    refine Ht.forget [1, 2, 4, 5] (Ht.st (σ' := SA l most (h27 l f)) (by kernel_rfl) ?_)
    exact bad27 n hn l most f fun σ h => seqH.r h
  · rw [decide_eq_false h1] at ho ⊢
    rw [Bool.false_or] at ho
    refine Ops.seg' 4 6 (by kernel_rfl) ?_
    refine Ops.done (by kernel_rfl) ?_
    refine seqH.n ?_
    refine Ht.cond (decide (most > 30)) (by kernel_rfl) (by kernel_rfl) (fun hc => ?_) (fun hc => ?_)
    · rw [hc] at ho
      cases (cnd_t ho)
      refine Ht.forget [1, 2, 4, 5] (Ht.st (σ' := SA l most (h27 l f)) (by kernel_rfl) ?_)
      exact bad27 n hn l most f fun σ h => seqH.r h
    · rw [hc] at ho
      have ho := cnd_f ho
      have h2 := of_decide_eq_false hc
      refine Ht.skip (by kernel_rfl) ?_
      refine seqH.n ?_
      refine Ht.forget [1, 2, 4, 5] (Ht.st (σ' := SA l most (h27 l f)) (by kernel_rfl) ?_)
      exact good27 n hn l most f o (by omega) (by omega) ho
theorem entries27 (n : Nat) (hn : n = MM + 30) (l : S51) (most : Int) (o : List S61 × S27) (ho : entriesL l most = some o) :
    Ht False Proofs.Tryd.prog C27 (startIn Proofs.Tryd.prog 27 [.v (e51 l), dI most] []) (EQ o) := by
  unfold entriesL at ho
  obtain ⟨f, hf, ho⟩ := bnd_some ho
  refine Ht.seq (by kernel_rfl) ?_
  refine Ht.region (hxC n) (by kernel_rfl) ?_
  refine Ops.seg' 3 3 (by kernel_rfl) ?_
  refine Ops.done (by kernel_rfl) ?_
  refine seqH.n ?_
  refine Ht.seq (by kernel_rfl) ?_
  refine Ht.seq (by kernel_rfl) ?_
  refine Ht.region (hxC n) (by kernel_rfl) ?_
  refine Ops.seg' 1 1 (by kernel_rfl) ?_
  refine Ops.one' 2 (fun h0 e0 => callC (n := n) (h := h0) (f := 52) (by decide) (by kernel_rfl) (Args.v (e51 l) (e51 l) (by kernel_rfl) Args.nil) (ok52 MM l f hf n (by omega))) (by kernel_rfl) (by kernel_rfl) ?_
  refine Ops.seg' 2 4 (by kernel_rfl) ?_
  refine Ops.done (by kernel_rfl) ?_
  refine seqH.n ?_
  refine Ht.forget [1, 2, 4, 5, 6] (Ht.st (σ' := Sm 47 [(1, dI most), (2, .ptr 0 0), (4, .v (.sl .nil [])), (5, .ptr 1 0), (6, .ptr 2 0)] (h27 l f)) (by kernel_rfl) ?_)
  refine Ht.seq (by kernel_rfl) ?_
  refine Ht.region (hxC n) (by kernel_rfl) ?_
  refine Ops.seg' 3 3 (by kernel_rfl) ?_
  refine Ops.done (by kernel_rfl) ?_
  refine seqH.n ?_
  refine Ht.cond (!isz f) (by kernel_rfl) (by kernel_rfl) (fun hc => ?_) (fun hc => ?_)
  · rw [hc] at ho
    cases (cnd_t ho)
    refine Ht.seq (by kernel_rfl) ?_
    refine Ht.region (hxC n) (by kernel_rfl) ?_
    refine Ops.seg' 3 3 (by kernel_rfl) ?_
    refine Ops.done (by kernel_rfl) ?_
    refine seqH.n ?_
    refine Ht.ret (by kernel_rfl) ?_
    refine seqH.r ?_
    exact EQ.nil (f := f) (by kernel_rfl) (by kernel_rfl) (by kernel_rfl)
  · rw [hc] at ho
    have ho := cnd_f ho
    refine Ht.skip (by kernel_rfl) ?_
    refine seqH.n ?_
    refine Ht.forget [1, 2, 4, 5] (Ht.st (σ' := SA l most (h27 l f)) (by kernel_rfl) ?_)
    exact range27 n hn l most f o ho

/-! ### the oracle -/
def decX : V → Option S90
  | .agg [.str b, .str f, .sl .plain ts, .int .i64 x, .int .i64 w] => (strsV ts).map fun ts => ⟨b, f, ts, x, w⟩
  | _ => none
theorem decX_spec {v : V} {a : S90} (h : decX v = some a) : v = e90 a := by
  unfold decX at h
  split at h
  · obtain ⟨ts, h1, rfl⟩ := Option.map_eq_some_iff.1 h
    rw [strsV_spec h1]; rfl
  · cases h
theorem decX_e (a : S90) : decX (e90 a) = some a := by
  show (strsV (a.fTags.map eS)).map (fun ts => (⟨a.fBase, a.fForm, ts, a.fNext, a.fWeight⟩ : S90)) = some a
  rw [strsV_e]; rfl
theorem allM_self {α : Type} {f : V → Option α} {k : α → V} (h : ∀ x, f (k x) = some x) (l : List α) : allM f (l.map k) = some l := by
  have := allM_map (f := f) (k := k) (r := fun s => s) l fun s _ => h s
  rw [List.map_id'] at this
  exact this
def decC : V → Option S88
  | .agg [.str b, .sl .plain xs] => (allM decX xs).map fun xs => ⟨b, xs⟩
  | _ => none
theorem decC_spec {v : V} {a : S88} (h : decC v = some a) : v = e88 a := by
  unfold decC at h
  split at h
  · obtain ⟨ts, h1, rfl⟩ := Option.map_eq_some_iff.1 h
    rw [allM_dec (fun _ _ h => decX_spec h) h1]; rfl
  · cases h
theorem decC_e (a : S88) : decC (e88 a) = some a := by
  show (allM decX (a.fItems.map e90)).map (fun xs => (⟨a.fName, xs⟩ : S88)) = some a
  rw [allM_self decX_e]; rfl
def F27 : List V → Option V
  | [.agg [.sl .plain cs], .int .i64 most] => match allM decC cs with
    | some l => (entriesL ⟨l⟩ most).map fun o => .tuple [eL e61 o.1, e27 o.2]
    | none => none
  | _ => none
theorem is27 : Is Proofs.Tryd.prog 27 := ⟨Proofs.Tryd.f27, Proofs.Tryd.func27, by kernel_rfl, by kernel_rfl⟩
theorem ora27 : OraOk False Proofs.Tryd.prog 27 F27 := by
  refine ⟨is27, fun vs r hF S w us hrel hs hg => ?_⟩
  unfold F27 at hF
  split at hF
  case h_2 => cases hF
  rename_i cs most
  split at hF
  case h_2 => cases hF
  rename_i l hl
  have hes := allM_dec (fun _ _ h => decC_spec h) hl
  subst hes
  obtain ⟨o, ho, rfl⟩ := Option.map_eq_some_iff.1 hF
  exact calls_of_ht (c := C27) (T := T) (N := 15) (xs := [e51 ⟨l⟩, .int .i64 most]) (r := .tuple [eL e61 o.1, e27 o.2]) Proofs.Tryd.func27 (by kernel_rfl) T_ok (entries27 (MM + 30) rfl ⟨l⟩ most o ho) hrel hs hg
def oraG (f : Nat) : Option (List V → Option V) := match f with
  | 27 => some F27
  | f => oraT f
def EG : Env := { E with ora := oraG }
theorem oraG_ok : OSound False Proofs.Tryd.prog EG := by
  intro f F h
  have h : oraG f = some F := h
  unfold oraG at h
  split at h
  · cases h; exact ora27
  · exact ora_ok f F h
theorem goodG : Good False Proofs.Tryd.prog EG := ⟨good.mixed, T_ok, names_ok, oraG_ok, oraD_ok⟩
def f27 (m : Nat) (a0 : S51) (a1 : Int) : Option (List S61 × S27) := entriesL a0 a1
theorem ok27 (m : Nat) (a0 : S51) (a1 : Int) (o : List S61 × S27) (h : f27 m a0 a1 = some o) (n : Nat) (hn : m + 1 ≤ n) : Fn Proofs.Tryd.prog EG n 27 [.v (e51 a0), .v (eI a1)] (.tuple [(eL e61) o.1, e27 o.2]) := by
  obtain ⟨n, rfl⟩ : ∃ q, n = q + 1 := ⟨n - 1, by omega⟩
  refine ora_fn (F := F27) (xs := [e51 a0, eI a1]) (by kernel_rfl) rfl rfl ?_ rfl
  show (match allM decC (a0.fClasses.map e88) with
    | some l => (entriesL ⟨l⟩ a1).map fun (o : List S61 × S27) => V.tuple [eL e61 o.1, e27 o.2]
    | none => none) = _
  have h : entriesL a0 a1 = some o := h
  rw [allM_self decC_e]
  show (entriesL ⟨a0.fClasses⟩ a1).map (fun (o : List S61 × S27) => V.tuple [eL e61 o.1, e27 o.2]) = _
  rw [show (⟨a0.fClasses⟩ : S51) = a0 from rfl, h]
  rfl
end Go.Abs
