/-
  LEXICON ENTRIES: from class to class, the walk.
-/
import Derived.Test.YthjhdnonlkooiaaDoorLE2
namespace Go.Abs
open Go.Sort Go.Proofs
set_option linter.unusedVariables false
set_option maxRecDepth 100000

noncomputable abbrev L54 : Code := cL (cR (cL (cR (cR C54))))
/-- behind the checks of the number of steps -/
noncomputable abbrev B54 : Code := cL (cL (cR (cR (cL L54))))
abbrev SF (r : Nat) (k : Int) (b : Nat) (items : List S90) (i : Int) (G : List AObj) : St := Sm 84 [(0, .ptr r 0), (2, dI k), (7, .ptr b 0), (22, dP e90 items), (23, dI (items.length : Int)), (24, dI i)] G
abbrev SG (r : Nat) (k : Int) (b a : Nat) (items : List S90) (i : Int) (G : List AObj) : St := Sm 84 [(0, .ptr r 0), (2, dI k), (7, .ptr b 0), (10, .ptr a 0), (22, dP e90 items), (23, dI (items.length : Int)), (24, dI i)] G
abbrev SH (r : Nat) (k : Int) (b a c : Nat) (items : List S90) (i : Int) (G : List AObj) : St := Sm 84 [(0, .ptr r 0), (2, dI k), (7, .ptr b 0), (10, .ptr a 0), (11, .ptr c 0), (22, dP e90 items), (23, dI (items.length : Int)), (24, dI i)] G

/-- the entry that an item leads to is made: region 9 -/
theorem region9 (m n : Nat) (hn : m + 10 ≤ n) (r : Nat) (k : Int) (b a : Nat) (items : List S90) (i : Int) (G : List AObj) (e : S61) (x : S90) (z : S61) (hz : nextE m e x = some z) (hb : G[b]? = some (boxE e)) (ha : G[a]? = some (boxX x)) {Q : Post}
    (hQ : ∀ σ, Abs.forget [0, 2, 7, 10, 11, 22, 23, 24] σ = SH r k b a G.length items i (G ++ [boxE z]) → Q .normal σ) :
    Ht False Proofs.Tryd.prog (cL (cR (cR B54))) (SG r k b a items i G) Q := by
  unfold nextE at hz
  obtain ⟨zb, eb, hz⟩ := bnd_some hz
  obtain ⟨zf, ef, hz⟩ := bnd_some hz
  obtain ⟨zt, et, hz⟩ := bnd_some hz
  cases hz
  refine Ht.region (hxC n) (by kernel_rfl) ?_
  refine Ops.seg' 1 1 (by kernel_rfl) ?_
  refine Ops.one' 2 (fun h0 e0 => (ldc (i := ti9) (h := h0) (r := b) (off := 0) (cs := [.v (.str e.fBase), .v (.str e.fForm), .v (vP eS e.fTags), dI e.fWeight]) (d := .v (.str e.fBase)) (hq_of (g := G) (e0.trans (by kernel_rfl)) hb) (by rfl))) (by kernel_rfl) (by kernel_rfl) ?_
  refine Ops.seg' 1 3 (by kernel_rfl) ?_
  refine Ops.one' 4 (fun h0 e0 => (ldc (i := ti9) (h := h0) (r := a) (off := 0) (cs := [.v (.str x.fBase), .v (.str x.fForm), .v (vP eS x.fTags), dI x.fNext, dI x.fWeight]) (d := .v (.str x.fBase)) (hq_of (g := G) (e0.trans (by kernel_rfl)) ha) (by rfl))) (by kernel_rfl) (by kernel_rfl) ?_
  refine Ops.one' 5 (fun h0 e0 => (str_cat (T := T) h0 9 e.fBase x.fBase zb eb)) (by kernel_rfl) (by kernel_rfl) ?_
  refine Ops.seg' 1 6 (by kernel_rfl) ?_
  refine Ops.one' 7 (fun h0 e0 => (ldc (i := ti9) (h := h0) (r := b) (off := 1) (cs := [.v (.str e.fBase), .v (.str e.fForm), .v (vP eS e.fTags), dI e.fWeight]) (d := .v (.str e.fForm)) (hq_of (g := G) (e0.trans (by kernel_rfl)) hb) (by rfl))) (by kernel_rfl) (by kernel_rfl) ?_
  refine Ops.seg' 1 8 (by kernel_rfl) ?_
  refine Ops.one' 9 (fun h0 e0 => (ldc (i := ti9) (h := h0) (r := a) (off := 1) (cs := [.v (.str x.fBase), .v (.str x.fForm), .v (vP eS x.fTags), dI x.fNext, dI x.fWeight]) (d := .v (.str x.fForm)) (hq_of (g := G) (e0.trans (by kernel_rfl)) ha) (by rfl))) (by kernel_rfl) (by kernel_rfl) ?_
  refine Ops.one' 10 (fun h0 e0 => (str_cat (T := T) h0 9 e.fForm x.fForm zf ef)) (by kernel_rfl) (by kernel_rfl) ?_
  refine Ops.seg' 1 11 (by kernel_rfl) ?_
  refine Ops.one' 12 (fun h0 e0 => (ldc (i := ti36) (h := h0) (r := b) (off := 2) (cs := [.v (.str e.fBase), .v (.str e.fForm), .v (vP eS e.fTags), dI e.fWeight]) (d := .v (vP eS e.fTags)) (hq_of (g := G) (e0.trans (by kernel_rfl)) hb) (by rfl))) (by kernel_rfl) (by kernel_rfl) ?_
  refine Ops.seg' 1 13 (by kernel_rfl) ?_
  refine Ops.one' 14 (fun h0 e0 => (ldc (i := ti36) (h := h0) (r := a) (off := 2) (cs := [.v (.str x.fBase), .v (.str x.fForm), .v (vP eS x.fTags), dI x.fNext, dI x.fWeight]) (d := .v (vP eS x.fTags)) (hq_of (g := G) (e0.trans (by kernel_rfl)) ha) (by rfl))) (by kernel_rfl) (by kernel_rfl) ?_
  refine Ops.seg' 1 15 (by kernel_rfl) ?_
  refine Ops.one' 16 (fun h0 e0 => callC (n := n) (h := h0) (f := 73) (by decide) (by kernel_rfl) (Args.v (.sl .nonfull [vP eS e.fTags, vP eS x.fTags]) ((eL (eL eS)) [e.fTags, x.fTags]) (by kernel_rfl) Args.nil) (ok73 m [e.fTags, x.fTags] zt et n (by omega))) (by kernel_rfl) (by kernel_rfl) ?_
  refine Ops.seg' 1 17 (by kernel_rfl) ?_
  refine Ops.one' 18 (fun h0 e0 => (ldc (i := ti3) (h := h0) (r := b) (off := 3) (cs := [.v (.str e.fBase), .v (.str e.fForm), .v (vP eS e.fTags), dI e.fWeight]) (d := dI e.fWeight) (hq_of (g := G) (e0.trans (by kernel_rfl)) hb) (by rfl))) (by kernel_rfl) (by kernel_rfl) ?_
  refine Ops.seg' 1 19 (by kernel_rfl) ?_
  refine Ops.one' 20 (fun h0 e0 => (ldc (i := ti3) (h := h0) (r := a) (off := 4) (cs := [.v (.str x.fBase), .v (.str x.fForm), .v (vP eS x.fTags), dI x.fNext, dI x.fWeight]) (d := dI x.fWeight) (hq_of (g := G) (e0.trans (by kernel_rfl)) ha) (by rfl))) (by kernel_rfl) (by kernel_rfl) ?_
  refine Ops.seg' 3 23 (by kernel_rfl) ?_
  refine Ops.one' 24 (fun h0 e0 => (stc (i := ti62) (h := h0) (r := G.length) (off := 0) (cs := [.v (.str ByteArray.empty), .v (.str ByteArray.empty), .v (.sl .nil []), dI 0]) (cs' := [.v (.str zb), .v (.str zf), .v (vP eS zt), dI (w64 (e.fWeight + x.fWeight))]) (x := .v (.agg [.str zb, .str zf, vP eS zt, vI (w64 (e.fWeight + x.fWeight))])) (hq_of (g := G ++ [.cells [.v (.str ByteArray.empty), .v (.str ByteArray.empty), .v (.sl .nil []), dI 0]]) (e0.trans (by kernel_rfl)) (gE _ _)) (by rfl) (by rfl))) (by kernel_rfl) (by kernel_rfl) ?_
  refine Ops.done (by kernel_rfl) ?_
  refine hQ _ ?_
  refine Eq.trans (b := SH r k b a G.length items i ((G ++ [AObj.cells [.v (.str ByteArray.empty), .v (.str ByteArray.empty), .v (.sl .nil []), dI 0]]).set G.length (boxE ⟨zb, zf, zt, w64 (e.fWeight + x.fWeight)⟩))) (by kernel_rfl) (Sm_heap (set_end _ _ _))
theorem CallT.of_eq {DR : Prop} {P : Program} {f : FuncId} {ds ds' : List D} {h h' : List AObj} {Q : D → List AObj → Prop} (e1 : ds = ds') (e2 : h = h') (hc : CallT DR P f ds' h' Q) : CallT DR P f ds h Q := by rw [e1, e2]; exact hc
theorem is54 : Is Proofs.Tryd.prog 54 := ⟨Proofs.Tryd.f54, Proofs.Tryd.func54, by kernel_rfl, by kernel_rfl⟩
/-- one item that leads on -/
theorem item54_rec (m n : Nat) (hn : m + 10 ≤ n) (l : S51) (k : Nat) (hk : k ≤ 1000)
    (ih : ∀ cls e s o, followL m l k cls e s = some o → ∀ H r q, r < H.length → Wk H r q l s.1 s.2 → CallT False Proofs.Tryd.prog 54 [.ptr r 0, dI cls, dI (k : Int), .v (e61 e)] H fun d h' => d = dB o.1 ∧ FPost l H r q s.1 h' o.2)
    (H : List AObj) (r q0 : Nat) (hr : r < H.length) (found0 : List S61) (e : S61) (items : List S90) (o : Bool × Fst) (i : Nat) (q : Nat) (s : Fst) (x : S90) (z : S61) (a c : Nat) (G3 : List AObj)
    (h3 : LI l H r q0 found0 e G3 q s) (hxa3 : G3[a]? = some (boxX x)) (hza3 : G3[c]? = some (boxE z))
    (ho : (bnd (followL m l k x.fNext z s) fun o => cnd (!o.1) (some (false, o.2)) (itemsL m (followL m l k) e (items.drop (i + 1)) o.2)) = some o) {Q : Post}
    (hend : ∀ σ, FQ l H r q0 found0 o .ret σ → Q .ret σ)
    (hnext : ∀ G' q' s', LI l H r q0 found0 e G' q' s' → itemsL m (followL m l k) e (items.drop (i + 1)) s' = some o → ∀ σ, Abs.forget [0, 2, 7, 22, 23, 24] σ = SF r ((k + 1 : Nat) : Int) H.length items i G' → Q .normal σ) :
    Ht False Proofs.Tryd.prog (cR (cR (cR (cR (cR B54))))) (SH r ((k + 1 : Nat) : Int) H.length a c items i G3) (blkH 1 Q) := by
  obtain ⟨p, hp, ho⟩ := bnd_some ho
  have hw : w64 (((k + 1 : Nat) : Int) - 1) = (k : Int) := by rw [w64_id ⟨by omega, by omega⟩]; omega
  have hcall := ih x.fNext z s p hp G3 r q (by have := h3.len; omega) h3.wk
  have hcall' : CallT False Proofs.Tryd.prog 54 [.ptr r 0, dI x.fNext, dI (w64 (((k + 1 : Nat) : Int) - 1)), .v (e61 z)] G3 fun d h' => d = dB p.1 ∧ FPost l G3 r q s.1 h' p.2 := by rw [hw]; exact hcall
  refine Ht.seq (by kernel_rfl) ?_
  refine Ht.regionCall' (hxC n) 6 (t := 81) (args := [.tmp 75, .tmp 77, .tmp 79, .tmp 80]) (Qc := fun d h' => d = dB p.1 ∧ FPost l G3 r q s.1 h' p.2) (by kernel_rfl) is54 ?_
  refine OpsU.seg' 2 2 (by kernel_rfl) ?_
  refine OpsU.one' 3 (fun h0 e0 => (ldc (i := ti3) (h := h0) (r := a) (off := 3) (cs := [.v (.str x.fBase), .v (.str x.fForm), .v (vP eS x.fTags), dI x.fNext, dI x.fWeight]) (d := dI x.fNext) (hq_of (g := G3) (e0.trans (by kernel_rfl)) hxa3) (by rfl))) (by kernel_rfl) (by kernel_rfl) ?_
  refine OpsU.seg' 2 5 (by kernel_rfl) ?_
  refine OpsU.one' 6 (fun h0 e0 => (ldc (i := ti62) (h := h0) (r := c) (off := 0) (cs := [.v (.str z.fBase), .v (.str z.fForm), .v (vP eS z.fTags), dI z.fWeight]) (d := .v (e61 z)) (hq_of (g := G3) (e0.trans (by kernel_rfl)) hza3) (by rfl))) (by kernel_rfl) (by kernel_rfl) ?_
  refine OpsU.done ⟨CallT.of_eq (by kernel_rfl) (by kernel_rfl) hcall', fun d h' hd => ?_⟩
  obtain ⟨rfl, hpost⟩ := hd
  obtain ⟨q', h5⟩ := h3.call hr hpost
  refine Ops.seg' 1 8 (by kernel_rfl) ?_
  refine Ops.done (by kernel_rfl) ?_
  refine seqH.n ?_
  refine Ht.cond (!p.1) (by kernel_rfl) (by kernel_rfl) (fun hc2 => ?_) (fun hc2 => ?_)
  · rw [hc2] at ho
    cases (cnd_t ho)
    refine Ht.seq (by kernel_rfl) ?_
    refine Ht.region (hxC n) (by kernel_rfl) ?_
    refine Ops.seg' 1 1 (by kernel_rfl) ?_
    refine Ops.done (by kernel_rfl) ?_
    refine seqH.n ?_
    refine Ht.ret (by kernel_rfl) ?_
    refine blkH.r ?_
    refine hend _ (FQ.of false (by kernel_rfl) rfl ?_)
    show FPost l H r q0 found0 h' _
    exact h5.post
  · rw [hc2] at ho
    have ho := cnd_f ho
    refine Ht.skip (by kernel_rfl) ?_
    refine blkH.n ?_
    exact hnext _ _ _ h5 ho _ (by kernel_rfl)
/-- one item -/
theorem item54 (m n : Nat) (hn : m + 10 ≤ n) (l : S51) (k : Nat) (hk : k ≤ 1000)
    (ih : ∀ cls e s o, followL m l k cls e s = some o → ∀ H r q, r < H.length → Wk H r q l s.1 s.2 → CallT False Proofs.Tryd.prog 54 [.ptr r 0, dI cls, dI (k : Int), .v (e61 e)] H fun d h' => d = dB o.1 ∧ FPost l H r q s.1 h' o.2)
    (H : List AObj) (r q0 : Nat) (hr : r < H.length) (found0 : List S61) (e : S61) (items : List S90) (hil : items.length ≤ 1000000) (o : Bool × Fst) (i : Nat) (hi : i < items.length) (G : List AObj) (q : Nat) (s : Fst) (h : LI l H r q0 found0 e G q s)
    (ho : itemsL m (followL m l k) e (items.drop i) s = some o) {Q : Post}
    (hend : ∀ σ, FQ l H r q0 found0 o .ret σ → Q .ret σ)
    (hnext : ∀ G' q' s', LI l H r q0 found0 e G' q' s' → itemsL m (followL m l k) e (items.drop (i + 1)) s' = some o → ∀ σ, Abs.forget [0, 2, 7, 22, 23, 24] σ = SF r ((k + 1 : Nat) : Int) H.length items i G' → Q .normal σ) :
    Ht False Proofs.Tryd.prog (cL (cR (cR (cL L54)))) (SF r ((k + 1 : Nat) : Int) H.length items i G) Q := by
  obtain ⟨x, hx⟩ : ∃ x, items[i]? = some x := ⟨_, List.getElem?_eq_getElem hi⟩
  have hd : items.drop i = x :: items.drop (i + 1) := by
    rw [List.drop_eq_getElem_cons hi]
    rw [List.getElem?_eq_getElem hi] at hx
    rw [Option.some.inj hx]
  have hix : idx items (i : Int) = some x := by rw [idx_get]; exact hx
  rw [hd] at ho
  simp only [itemsL] at ho
  have hGr : G[r]? = some (wkC l q s.1 s.2) := h.wk.cell
  have hGl := h.len
  refine Ht.block 1 (by kernel_rfl) ?_
  show Ht False Proofs.Tryd.prog B54 _ _
  refine Ht.seq (by kernel_rfl) ?_
  refine Ht.region (hxC n) (by kernel_rfl) ?_
  refine Ops.one' 1 (fun h0 e0 => (ix_r (T := T) h0 87 91 5 .plain e90 items i x hix (by kernel_rfl) (by kernel_rfl) (fun _ => rfl))) (by kernel_rfl) (by kernel_rfl) ?_
  refine Ops.seg' 2 3 (by kernel_rfl) ?_
  refine Ops.one' 4 (fun h0 e0 => (stc (i := ti91) (h := h0) (r := G.length) (off := 0) (cs := [.v (.str ByteArray.empty), .v (.str ByteArray.empty), .v (.sl .nil []), dI 0, dI 0]) (cs' := [.v (.str x.fBase), .v (.str x.fForm), .v (vP eS x.fTags), dI x.fNext, dI x.fWeight]) (x := .v (.agg [.str x.fBase, .str x.fForm, vP eS x.fTags, vI x.fNext, vI x.fWeight])) (hq_of (g := G ++ [.cells [.v (.str ByteArray.empty), .v (.str ByteArray.empty), .v (.sl .nil []), dI 0, dI 0]]) (e0.trans (by kernel_rfl)) (gE _ _)) (by rfl) (by rfl))) (by kernel_rfl) (by kernel_rfl) ?_
  refine Ops.done (by kernel_rfl) ?_
  refine seqH.n ?_
  refine Ht.forget [0, 2, 7, 10, 22, 23, 24] (Ht.st (σ' := SG r ((k + 1 : Nat) : Int) H.length G.length items i (G ++ [boxX x])) (Eq.trans (b := SG r ((k + 1 : Nat) : Int) H.length G.length items i ((G ++ [AObj.cells [.v (.str ByteArray.empty), .v (.str ByteArray.empty), .v (.sl .nil []), dI 0, dI 0]]).set G.length (boxX x))) (by kernel_rfl) (Sm_heap (set_end _ _ _))) ?_)
  -- one more step
  have hG1r : (G ++ [boxX x])[r]? = some (wkC l q s.1 s.2) := gA hGr
  refine Ht.seq (by kernel_rfl) ?_
  refine Ht.seq (by kernel_rfl) ?_
  refine Ht.region (hxC n) (by kernel_rfl) ?_
  refine Ops.seg' 3 3 (by kernel_rfl) ?_
  refine Ops.one' 4 (fun h0 e0 => (ldc (i := ti3) (h := h0) (r := r) (off := 2) (cs := [dP e88 l.fClasses, fdD q s.1, dI s.2]) (d := dI s.2) (hq_of (g := G ++ [boxX x]) (e0.trans (by kernel_rfl)) hG1r) (by rfl))) (by kernel_rfl) (by kernel_rfl) ?_
  refine Ops.seg' 3 7 (by kernel_rfl) ?_
  refine Ops.one' 8 (fun h0 e0 => (stc (i := ti3) (h := h0) (r := r) (off := 2) (cs := [dP e88 l.fClasses, fdD q s.1, dI s.2]) (cs' := [dP e88 l.fClasses, fdD q s.1, dI (w64 (s.2 + 1))]) (x := dI (w64 (s.2 + 1))) (hq_of (g := G ++ [boxX x]) (e0.trans (by kernel_rfl)) hG1r) (by rfl) (by rfl))) (by kernel_rfl) (by kernel_rfl) ?_
  refine Ops.done (by kernel_rfl) ?_
  refine seqH.n ?_
  have h2 := h.item hr [boxX x] (w64 (s.2 + 1))
  have hxa : ((G ++ [boxX x]).set r (wkC l q s.1 (w64 (s.2 + 1))))[G.length]? = some (boxX x) := gS (gE G (boxX x)) (by omega)
  have hlen2 : ((G ++ [boxX x]).set r (wkC l q s.1 (w64 (s.2 + 1)))).length = G.length + 1 := by simp
  refine Ht.forget [0, 2, 7, 10, 22, 23, 24] (Ht.st (σ' := SG r ((k + 1 : Nat) : Int) H.length G.length items i ((G ++ [boxX x]).set r (wkC l q s.1 (w64 (s.2 + 1))))) (by kernel_rfl) ?_)
  generalize (G ++ [boxX x]).set r (wkC l q s.1 (w64 (s.2 + 1))) = G2 at *
  refine Ht.seq (by kernel_rfl) ?_
  refine Ht.region (hxC n) (by kernel_rfl) ?_
  refine Ops.seg' 3 3 (by kernel_rfl) ?_
  refine Ops.one' 4 (fun h0 e0 => (ldc (i := ti3) (h := h0) (r := r) (off := 2) (cs := [dP e88 l.fClasses, fdD q s.1, dI (w64 (s.2 + 1))]) (d := dI (w64 (s.2 + 1))) (hq_of (g := G2) (e0.trans (by kernel_rfl)) h2.wk.cell) (by rfl))) (by kernel_rfl) (by kernel_rfl) ?_
  refine Ops.seg' 1 5 (by kernel_rfl) ?_
  refine Ops.done (by kernel_rfl) ?_
  refine seqH.n ?_
  refine Ht.cond (decide (w64 (s.2 + 1) > 20000)) (by kernel_rfl) (by kernel_rfl) (fun hc => ?_) (fun hc => ?_)
  · rw [hc] at ho
    cases (cnd_t ho)
    refine Ht.seq (by kernel_rfl) ?_
    refine Ht.region (hxC n) (by kernel_rfl) ?_
    refine Ops.seg' 1 1 (by kernel_rfl) ?_
    refine Ops.done (by kernel_rfl) ?_
    refine seqH.n ?_
    refine Ht.ret (by kernel_rfl) ?_
    refine seqH.r ?_
    refine blkH.r ?_
    refine hend _ (FQ.of false (by kernel_rfl) rfl ?_)
    show FPost l H r q0 found0 G2 _
    exact h2.post
  rw [hc] at ho
  have ho := cnd_f ho
  obtain ⟨z, hz, ho⟩ := bnd_some ho
  refine Ht.skip (by kernel_rfl) ?_
  refine seqH.n ?_
  refine Ht.forget [0, 2, 7, 10, 22, 23, 24] (Ht.st (σ' := SG r ((k + 1 : Nat) : Int) H.length G.length items i G2) (by kernel_rfl) ?_)
  -- the new entry
  refine Ht.seq (by kernel_rfl) ?_
  refine region9 m n hn r _ H.length G.length items i G2 e x z hz h2.box hxa fun σ hσ => ?_
  refine seqH.n ?_
  refine Ht.forget [0, 2, 7, 10, 11, 22, 23, 24] (Ht.st hσ ?_)
  clear hσ σ
  have h3 := h2.app [boxE z]
  have hxa3 : (G2 ++ [boxE z])[G.length]? = some (boxX x) := gA hxa
  have hza3 : (G2 ++ [boxE z])[G2.length]? = some (boxE z) := gE _ _
  generalize G2 ++ [boxE z] = G3 at *
  refine Ht.seq (by kernel_rfl) ?_
  refine Ht.region (hxC n) (by kernel_rfl) ?_
  refine Ops.seg' 1 1 (by kernel_rfl) ?_
  refine Ops.one' 2 (fun h0 e0 => (ldc (i := ti3) (h := h0) (r := G.length) (off := 3) (cs := [.v (.str x.fBase), .v (.str x.fForm), .v (vP eS x.fTags), dI x.fNext, dI x.fWeight]) (d := dI x.fNext) (hq_of (g := G3) (e0.trans (by kernel_rfl)) hxa3) (by rfl))) (by kernel_rfl) (by kernel_rfl) ?_
  refine Ops.seg' 1 3 (by kernel_rfl) ?_
  refine Ops.done (by kernel_rfl) ?_
  refine seqH.n ?_
  refine Ht.cond (decide (x.fNext < 0)) (by kernel_rfl) (by kernel_rfl) (fun hc1 => ?_) (fun hc1 => ?_)
  · rw [hc1] at ho
    have ho := cnd_t ho
    obtain ⟨zs, hzs, ho⟩ := bnd_some ho
    have hzz : zs = s.1 ++ [z] := by
      unfold Abs.app at hzs
      split at hzs
      · cases hzs; rfl
      · cases hzs
    have h4 := h3.push hr z
    refine Ht.region (hxC n) (by kernel_rfl) ?_
    refine Ops.seg' 4 4 (by kernel_rfl) ?_
    refine Ops.one' 5 (fun h0 e0 => (ldc (i := ti53) (h := h0) (r := r) (off := 1) (cs := [dP e88 l.fClasses, fdD q s.1, dI (w64 (s.2 + 1))]) (d := fdD q s.1) (hq_of (g := G3) (e0.trans (by kernel_rfl)) h3.wk.cell) (by rfl))) (by kernel_rfl) (by kernel_rfl) ?_
    refine Ops.one' 6 (fun h0 e0 => (ldc (i := ti62) (h := h0) (r := G2.length) (off := 0) (cs := [.v (.str z.fBase), .v (.str z.fForm), .v (vP eS z.fTags), dI z.fWeight]) (d := .v (e61 z)) (hq_of (g := G3) (e0.trans (by kernel_rfl)) hza3) (by rfl))) (by kernel_rfl) (by kernel_rfl) ?_
    refine Ops.seg' 1 7 (by kernel_rfl) ?_
    refine Ops.one' 8 (fun h0 e0 => (appE (h := h0) (q := q) (found := s.1) (zs := zs) (x := z) hzs (fun hf => hq_of (g := G3) (e0.trans (by kernel_rfl)) (h3.wk.row hf)))) (by kernel_rfl) (by kernel_rfl) ?_
    refine Ops.seg' 2 10 (by kernel_rfl) ?_
    refine Ops.one' 11 (fun h0 e0 => (stc (i := ti53) (h := h0) (r := r) (off := 1) (cs := [dP e88 l.fClasses, fdD q s.1, dI (w64 (s.2 + 1))]) (cs' := [dP e88 l.fClasses, .osl G3.length 0 (s.1.length + 1) false, dI (w64 (s.2 + 1))]) (x := .osl G3.length 0 (s.1.length + 1) false) (hq_of (g := pushH G3 q s.1 z) (e0.trans (by kernel_rfl)) (push_get h3.wk.cell (by by_cases hs : s.1 = []; exact .inl hs; exact .inr (h3.wk.ne hs)))) (by rfl) (by rfl))) (by kernel_rfl) (by kernel_rfl) ?_
    refine Ops.done (by kernel_rfl) ?_
    refine blkH.n ?_
    have hne : (s.1 ++ [z]).map e61 ≠ [] := by simp
    have hfd : fdD G3.length (s.1 ++ [z]) = .osl G3.length 0 (s.1.length + 1) false := by
      unfold fdD
      rw [rowD_cons hne]; simp
    have hwk : wkC l G3.length (s.1 ++ [z]) (w64 (s.2 + 1)) = .cells [dP e88 l.fClasses, .osl G3.length 0 (s.1.length + 1) false, dI (w64 (s.2 + 1))] := by
      unfold wkC; rw [hfd]
    rw [hwk] at h4
    refine hnext _ _ _ h4 (by rw [← hzz]; exact ho) _ (by kernel_rfl)
  · rw [hc1] at ho
    have ho := cnd_f ho
    refine Ht.forget [0, 2, 7, 10, 11, 22, 23, 24] (Ht.st (σ' := SH r ((k + 1 : Nat) : Int) H.length G.length G2.length items i G3) (by kernel_rfl) ?_)
    exact item54_rec m n hn l k hk ih H r q0 hr found0 e items o i q (s.1, w64 (s.2 + 1)) x z G.length G2.length G3 h3 hxa3 hza3 ho hend hnext

/-- follow, from any class, with so many items at most -/
theorem follow54 (m n : Nat) (hn : m + 10 ≤ n) (l : S51) (hl : ∀ c ∈ l.fClasses, c.fItems.length ≤ 1000000) : ∀ (k : Nat), k ≤ 1000 → ∀ cls e s o, followL m l k cls e s = some o → ∀ H r q, r < H.length → Wk H r q l s.1 s.2 →
    CallT False Proofs.Tryd.prog 54 [.ptr r 0, dI cls, dI (k : Int), .v (e61 e)] H fun d h' => d = dB o.1 ∧ FPost l H r q s.1 h' o.2 := by
  intro k
  induction k with
  | zero =>
    intro _ cls e s o ho H r q hr hw
    cases ho
    refine callT_of_ht (c := C54) (T := T) Proofs.Tryd.func54 (by kernel_rfl) T_ok ?_
    refine Ht.mono (Q := FQ l H r q s.1 (true, s)) ?_ fun e σ ⟨h1, d, h2, h3⟩ => ⟨h1, d, h2, h3⟩
    show Ht False Proofs.Tryd.prog C54 _ _
    refine Ht.seq (by kernel_rfl) ?_
    refine Ht.region (hxC n) (by kernel_rfl) ?_
    refine Ops.seg' 2 2 (by kernel_rfl) ?_
    refine Ops.done (by kernel_rfl) ?_
    refine seqH.n ?_
    refine Ht.seq (by kernel_rfl) ?_
    refine Ht.seq (by kernel_rfl) ?_
    refine Ht.region (hxC n) (by kernel_rfl) ?_
    refine Ops.seg' 2 2 (by kernel_rfl) ?_
    refine Ops.done (by kernel_rfl) ?_
    refine seqH.n ?_
    refine Ht.cond true (by kernel_rfl) (by kernel_rfl) (fun _ => ?_) (fun hc => nomatch hc)
    refine Ht.seq (by kernel_rfl) ?_
    refine Ht.region (hxC n) (by kernel_rfl) ?_
    refine Ops.seg' 1 1 (by kernel_rfl) ?_
    refine Ops.done (by kernel_rfl) ?_
    refine seqH.n ?_
    refine Ht.ret (by kernel_rfl) ?_
    refine seqH.r ?_
    refine FQ.of true (by kernel_rfl) rfl ?_
    show FPost l H r q s.1 (H ++ [boxE e]) s
    exact ⟨q, hw.app, by simp, fun i hi _ _ => List.getElem?_append_left hi, (Decidable.em (s.1 = [])).imp_right fun h => .inl ⟨rfl, h⟩⟩
  | succ k ihk =>
    intro hk cls e s o ho H r q hr hw
    simp only [followL] at ho
    obtain ⟨c, hc, ho⟩ := bnd_some ho
    have hcm : c ∈ l.fClasses := by
      unfold idx at hc
      split at hc
      · exact List.mem_of_getElem? hc
      · cases hc
    have hil := hl c hcm
    refine callT_of_ht (c := C54) (T := T) Proofs.Tryd.func54 (by kernel_rfl) T_ok ?_
    refine Ht.mono (Q := FQ l H r q s.1 o) ?_ fun e σ ⟨h1, d, h2, h3⟩ => ⟨h1, d, h2, h3⟩
    show Ht False Proofs.Tryd.prog C54 _ _
    refine Ht.seq (by kernel_rfl) ?_
    refine Ht.region (hxC n) (by kernel_rfl) ?_
    refine Ops.seg' 2 2 (by kernel_rfl) ?_
    refine Ops.done (by kernel_rfl) ?_
    refine seqH.n ?_
    refine Ht.seq (by kernel_rfl) ?_
    refine Ht.seq (by kernel_rfl) ?_
    refine Ht.region (hxC n) (by kernel_rfl) ?_
    refine Ops.seg' 2 2 (by kernel_rfl) ?_
    refine Ops.done (by kernel_rfl) ?_
    refine seqH.n ?_
    refine Ht.cond (((k + 1 : Nat) : Int) == 0) (by kernel_rfl) (by kernel_rfl) (fun h0 => ?_) (fun _ => ?_)
    · have : ((k + 1 : Nat) : Int) = 0 := by simpa using h0
      omega
    refine Ht.skip (by kernel_rfl) ?_
    refine seqH.n ?_
    refine Ht.forget [0, 1, 2, 7] (Ht.st (σ' := Sm 84 [(0, .ptr r 0), (1, dI cls), (2, dI ((k + 1 : Nat) : Int)), (7, .ptr H.length 0)] (H ++ [boxE e])) (by kernel_rfl) ?_)
    have hcell : (H ++ [boxE e])[r]? = some (wkC l q s.1 s.2) := gA hw.cell
    refine Ht.seq (by kernel_rfl) ?_
    refine Ht.seq (by kernel_rfl) ?_
    refine Ht.region (hxC n) (by kernel_rfl) ?_
    refine Ops.seg' 4 4 (by kernel_rfl) ?_
    refine Ops.one' 5 (fun h0 e0 => (ldc (i := ti50) (h := h0) (r := r) (off := 0) (cs := [dP e88 l.fClasses, fdD q s.1, dI s.2]) (d := dP e88 l.fClasses) (hq_of (g := H ++ [boxE e]) (e0.trans (by kernel_rfl)) hcell) (by rfl))) (by kernel_rfl) (by kernel_rfl) ?_
    refine Ops.seg' 1 6 (by kernel_rfl) ?_
    refine Ops.one' 7 (fun h0 e0 => (ix_r (T := T) h0 50 89 2 .plain e88 l.fClasses cls c hc (by kernel_rfl) (by kernel_rfl) (fun _ => rfl))) (by kernel_rfl) (by kernel_rfl) ?_
    refine Ops.seg' 2 9 (by kernel_rfl) ?_
    refine Ops.one' 10 (fun h0 e0 => (len_r (T := T) h0 87 91 .plain e90 c.fItems (by kernel_rfl))) (by kernel_rfl) (by kernel_rfl) ?_
    refine Ops.seg' 1 11 (by kernel_rfl) ?_
    refine Ops.done (by kernel_rfl) ?_
    refine seqH.n ?_
    refine Ht.block 0 (by kernel_rfl) ?_
    have hli : LI l H r q s.1 e (H ++ [boxE e]) q s := ⟨hw.app, by simp, gE _ _, fun i hi _ _ => List.getElem?_append_left hi, (Decidable.em (s.1 = [])).imp_right fun h => .inl ⟨rfl, h⟩⟩
    refine Ht.loop (fun mm σ => ∃ (i : Nat) (G : List AObj) (q' : Nat) (s' : Fst), mm = c.fItems.length - i ∧ i ≤ c.fItems.length ∧ LI l H r q s.1 e G q' s' ∧ itemsL m (followL m l k) e (c.fItems.drop i) s' = some o ∧ Abs.forget [0, 2, 7, 22, 23, 24] σ = SF r ((k + 1 : Nat) : Int) H.length c.fItems i G) c.fItems.length (by kernel_rfl)
      ⟨0, _, q, s, rfl, Nat.zero_le _, hli, ho, by kernel_rfl⟩ ?_
    clear ho hli
    rintro mm σ ⟨i, G, q', s', rfl, hi, hli, ho, hσ⟩
    refine Ht.forget [0, 2, 7, 22, 23, 24] (Ht.st hσ ?_)
    clear hσ
    refine Ht.seq (by kernel_rfl) ?_
    refine Ht.region (hxC n) (by kernel_rfl) ?_
    refine Ops.seg' 1 1 (by kernel_rfl) ?_
    refine Ops.done (by kernel_rfl) ?_
    refine seqH.n ?_
    refine Ht.seq (by kernel_rfl) ?_
    refine Ht.cond (decide ((i : Int) < (c.fItems.length : Int))) (by kernel_rfl) (by kernel_rfl) (fun hc1 => ?_) (fun hc1 => ?_)
    case refine_2 =>
      have hc1 := of_decide_eq_false hc1
      have hdr : c.fItems.drop i = [] := List.drop_eq_nil_of_le (by omega)
      rw [hdr] at ho
      cases ho
      refine Ht.exit (id := 0) (by kernel_rfl) ?_
      refine seqH.x ?_
      show Ht False Proofs.Tryd.prog (cR (cR (cR C54))) _ _
      refine Ht.seq (by kernel_rfl) ?_
      refine Ht.region (hxC n) (by kernel_rfl) ?_
      refine Ops.seg' 1 1 (by kernel_rfl) ?_
      refine Ops.done (by kernel_rfl) ?_
      refine seqH.n ?_
      refine Ht.ret (by kernel_rfl) ?_
      refine FQ.of true (by kernel_rfl) rfl ?_
      show FPost l H r q s.1 G s'
      exact hli.post
    have hc1 := of_decide_eq_true hc1
    refine Ht.skip (by kernel_rfl) ?_
    refine seqH.n ?_
    refine Ht.seq (by kernel_rfl) ?_
    refine Ht.forget [0, 2, 7, 22, 23, 24] (Ht.st (σ' := SF r ((k + 1 : Nat) : Int) H.length c.fItems i G) (by kernel_rfl) ?_)
    refine item54 m n hn l k (by omega) (ihk (by omega)) H r q hr s.1 e c.fItems hil o i (by omega) G q' s' hli ho (fun σ hσ => ?_) fun G' q2 s2 hli2 ho2 σ hσ => ?_
    · exact hσ
    refine seqH.n ?_
    refine Ht.forget [0, 2, 7, 22, 23, 24] (Ht.st hσ ?_)
    clear hσ
    refine Ht.region (hxC n) (by kernel_rfl) ?_
    refine Ops.seg' 2 2 (by kernel_rfl) ?_
    refine Ops.done (by kernel_rfl) ?_
    have hw3 : w64 ((i : Int) + 1) = ((i + 1 : Nat) : Int) := by rw [w64_id ⟨by omega, by omega⟩]; omega
    refine ⟨c.fItems.length - (i + 1), by omega, i + 1, G', q2, s2, rfl, by omega, hli2, ho2, ?_⟩
    have e1 : ∀ (b : Int), b = ((i + 1 : Nat) : Int) → SF r ((k + 1 : Nat) : Int) H.length c.fItems b G' = SF r ((k + 1 : Nat) : Int) H.length c.fItems ((i + 1 : Nat) : Int) G' := fun b hb => by rw [hb]
    refine Eq.trans ?_ (e1 (w64 ((i : Int) + 1)) hw3)
    kernel_rfl
end Go.Abs
