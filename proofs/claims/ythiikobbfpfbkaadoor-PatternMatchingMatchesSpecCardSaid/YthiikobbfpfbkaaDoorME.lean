import Derived.Test.YthiikobbfpfbkaaDoorMD1
namespace Go.Abs
open Go.Sort Go.Proofs
set_option linter.unusedVariables false
set_option maxRecDepth 100000
set_option maxHeartbeats 2000000
def eachF (k : Int) (x0 : Tb) (rs : List Tb) (i j : Nat) : Bool :=
  if k = 4 then cell x0 i j || rs.any (fun s => cell s i j)
  else if k = 6 then cell x0 i j && rs.any (fun s => cell s i j)
  else if k = 7 then cell x0 i j && !(rs.any fun s => cell s i j) else false
theorem eachM_eq (k : Int) (x0 : Tb) (rs : List Tb) (N : Nat) : eachM k (x0 :: rs) N = mkM N (eachF k x0 rs) := rfl
def meF (f : Nat → Nat → Bool) (a b : Nat) (i j : Nat) : Bool := decide (i < a ∨ (i = a ∧ j < b)) && f i j
def meT (f : Nat → Nat → Bool) (N a b : Nat) : Tb := mkM N (meF f a b)
theorem meT_len (f : Nat → Nat → Bool) (N a b : Nat) : (meT f N a b).length = N := (mkM_sq _ _).1
theorem meT_zero (f : Nat → Nat → Bool) (N : Nat) : meT f N 0 0 = zM N := mkM_congr fun i j _ _ => by
  unfold meF
  rw [decide_eq_false (by omega)]; rfl
theorem meT_full (f : Nat → Nat → Bool) (N : Nat) : meT f N N 0 = mkM N f := mkM_congr fun i j hi _ => by
  unfold meF
  rw [decide_eq_true (by omega), Bool.true_and]
theorem meT_next (f : Nat → Nat → Bool) (N a : Nat) : meT f N a N = meT f N (a + 1) 0 := mkM_congr fun i j hi hj => by
  unfold meF
  by_cases h : i < a ∨ (i = a ∧ j < N)
  · rw [decide_eq_true h, decide_eq_true (by omega)]
  · rw [decide_eq_false h, decide_eq_false (by omega)]
theorem meT_skip (f : Nat → Nat → Bool) (N a b : Nat) (h : f a b = false) : meT f N a b = meT f N a (b + 1) := mkM_congr fun i j hi hj => by
  unfold meF
  by_cases h1 : i = a ∧ j = b
  · obtain ⟨rfl, rfl⟩ := h1
    rw [h, Bool.and_false, Bool.and_false]
  · by_cases h2 : i < a ∨ (i = a ∧ j < b)
    · rw [decide_eq_true h2, decide_eq_true (by omega)]
    · rw [decide_eq_false h2, decide_eq_false (by omega)]
theorem meT_set (f : Nat → Nat → Bool) {N a b : Nat} (ha : a < N) (hb : b < N) : (meT f N a b).set a (((List.range N).map fun y => meF f a b a y).set b (f a b)) = meT f N a (b + 1) := by
  refine Eq.trans (mkM_set (meF f a b) ha hb _) (mkM_congr fun i j hi hj => ?_)
  unfold meF
  by_cases h : i = a ∧ j = b
  · obtain ⟨rfl, rfl⟩ := h
    rw [if_pos ⟨rfl, rfl⟩, decide_eq_true (by omega), Bool.true_and]
  · rw [if_neg h]
    by_cases h2 : i < a ∨ (i = a ∧ j < b)
    · rw [decide_eq_true h2, decide_eq_true (by omega)]
    · rw [decide_eq_false h2, decide_eq_false (by omega)]
abbrev SDk (N t : Nat) (xs : List Tb) (a b : Int) (x y : Bool) (k : Int) (G : List AObj) : St := Sm 252 [(2, .ptr 0 0), (6, sN 1 N), (8, appF .nil t (xs.map mV)), (19, dI a), (20, dI b), (21, dB x), (22, dB y), (59, dI (N : Int)), (60, dI a), (67, dI (N : Int)), (68, dI b), (99, dI k)] G
noncomputable abbrev VD : Code := cL (cR TD)
theorem putD {r : Nat} (hg : Good False Proofs.Tryd.prog (ER r)) (n : Nat) (p : S24) (N t : Nat) (xs : List Tb) (a b : Nat) (x y : Bool) (ha : a < N) (hb : b < N) (f : Nat → Nat → Bool)
    (hf : f a b = if p.fKind = 4 then x || y else if p.fKind = 6 then x && y else if p.fKind = 7 then x && !y else false) (G : List AObj) (hbox : G[0]? = some (boxP p)) (hT : Tab G 1 (meT f N a b)) {Q : Post}
    (hQ : ∀ G' σ, G'[0]? = some (boxP p) → Tab G' 1 (meT f N a (b + 1)) → Abs.forget [2, 6, 8, 19, 59, 60, 67, 68] σ = SDi N t xs (a : Int) (b : Int) G' → Q .normal σ) :
    Ht False Proofs.Tryd.prog TD (SDx N t xs (a : Int) (b : Int) x y G) Q := by
  have ho := hT.cells (meT_len f N a b)
  have hrow : G[1 + 1 + a]? = some (bO ((List.range N).map fun y => meF f a b a y)) := (hT.2 a _ (mkM_row _ ha)).2
  have fin : ∀ v, v = f a b → ∀ σ : St, Abs.forget [2, 6, 8, 19, 59, 60, 67, 68] σ = SDi N t xs (a : Int) (b : Int) (G.set (1 + 1 + a) (bO (((List.range N).map fun y => meF f a b a y).set b v))) → Q .normal σ := by
    intro v hv σ hσ
    subst hv
    have hT2 := hT.upd (i := a) (r := ((List.range N).map fun y => meF f a b a y).set b (f a b)) (by rw [meT_len]; exact ha) (by rw [meT_len]; simp)
    rw [meT_set f ha hb] at hT2
    exact hQ _ σ (by rw [List.getElem?_set_ne (by omega)]; exact hbox) hT2 hσ
  refine Ht.seq (by kernel_rfl) ?_
  refine Ht.region (hxR hg n) (by kernel_rfl) ?_
  refine Ops.seg' 1 1 (by kernel_rfl) ?_
  refine Ops.one' 2 (fun h0 e0 => ldc (i := ti3) (h := h0) (r := 0) (off := 0) (cs := cV p) (d := dI p.fKind) (hq_of (g := G) (e0.trans (by kernel_rfl)) hbox) (by rfl)) (by kernel_rfl) (by kernel_rfl) ?_
  refine Ops.done (by kernel_rfl) ?_
  refine seqH.n ?_
  refine Ht.block 11 (by kernel_rfl) ?_
  refine Ht.forget [2, 6, 8, 19, 20, 21, 22, 59, 60, 67, 68, 99] (Ht.st (σ' := SDk N t xs (a : Int) (b : Int) x y p.fKind G) (by kernel_rfl) ?_)
  refine Ht.seq (by kernel_rfl) ?_
  refine Ht.region (hxR hg n) (by kernel_rfl) ?_
  refine Ops.seg' 2 2 (by kernel_rfl) ?_
  refine Ops.done (by kernel_rfl) ?_
  refine seqH.n ?_
  refine Ht.cond (p.fKind == 4) (by kernel_rfl) (by kernel_rfl) (fun hc => ?_) (fun hc => ?_)
  · have hk := eq_of_beq hc
    rw [if_pos hk] at hf
    refine Ht.region (hxR hg n) (by kernel_rfl) ?_
    refine Ops.seg' 2 2 (by kernel_rfl) ?_
    refine Ops.one' 3 (fun h0 e0 => ixC (h := h0) (q := 1) (N := N) (i := a) (hq_of (g := G) (e0.trans (by kernel_rfl)) ho) rfl ha) (by kernel_rfl) (by kernel_rfl) ?_
    refine Ops.one' 4 (fun h0 e0 => ldC (h := h0) (q := 1) (i := a) (hq_of (g := G) (e0.trans (by kernel_rfl)) ho) (cell_at ha)) (by kernel_rfl) (by kernel_rfl) ?_
    cases x with
    | true =>
      refine Ops.seg' 5 9 (by kernel_rfl) ?_
      refine Ops.one' 10 (fun h0 e0 => ixR (h := h0) (r := 1 + 1 + a) (N := N) (i := b) (hq_of (g := G) (e0.trans (by kernel_rfl)) hrow) rfl hb) (by kernel_rfl) (by kernel_rfl) ?_
      refine Ops.one' 11 (fun h0 e0 => stR (h := h0) (r := 1 + 1 + a) (i := b) (x := true) (hq_of (g := G) (e0.trans (by kernel_rfl)) hrow) (by simp; exact hb)) (by kernel_rfl) (by kernel_rfl) ?_
      refine Ops.done (by kernel_rfl) ?_
      refine blkH.n ?_
      exact fin true hf.symm _ (by kernel_rfl)
    | false =>
      refine Ops.seg' 5 9 (by kernel_rfl) ?_
      refine Ops.one' 10 (fun h0 e0 => ixR (h := h0) (r := 1 + 1 + a) (N := N) (i := b) (hq_of (g := G) (e0.trans (by kernel_rfl)) hrow) rfl hb) (by kernel_rfl) (by kernel_rfl) ?_
      refine Ops.one' 11 (fun h0 e0 => stR (h := h0) (r := 1 + 1 + a) (i := b) (x := y) (hq_of (g := G) (e0.trans (by kernel_rfl)) hrow) (by simp; exact hb)) (by kernel_rfl) (by kernel_rfl) ?_
      refine Ops.done (by kernel_rfl) ?_
      refine blkH.n ?_
      exact fin y hf.symm _ (by kernel_rfl)
  have hk4 : ¬ p.fKind = 4 := fun h => by rw [h] at hc; exact nomatch hc
  rw [if_neg hk4] at hf
  refine Ht.forget [2, 6, 8, 19, 20, 21, 22, 59, 60, 67, 68, 99] (Ht.st (σ' := SDk N t xs (a : Int) (b : Int) x y p.fKind G) (by kernel_rfl) ?_)
  refine Ht.seq (by kernel_rfl) ?_
  refine Ht.region (hxR hg n) (by kernel_rfl) ?_
  refine Ops.seg' 2 2 (by kernel_rfl) ?_
  refine Ops.done (by kernel_rfl) ?_
  refine seqH.n ?_
  refine Ht.cond (p.fKind == 6) (by kernel_rfl) (by kernel_rfl) (fun hc => ?_) (fun hc => ?_)
  · have hk := eq_of_beq hc
    rw [if_pos hk] at hf
    refine Ht.region (hxR hg n) (by kernel_rfl) ?_
    refine Ops.seg' 2 2 (by kernel_rfl) ?_
    refine Ops.one' 3 (fun h0 e0 => ixC (h := h0) (q := 1) (N := N) (i := a) (hq_of (g := G) (e0.trans (by kernel_rfl)) ho) rfl ha) (by kernel_rfl) (by kernel_rfl) ?_
    refine Ops.one' 4 (fun h0 e0 => ldC (h := h0) (q := 1) (i := a) (hq_of (g := G) (e0.trans (by kernel_rfl)) ho) (cell_at ha)) (by kernel_rfl) (by kernel_rfl) ?_
    cases x with
    | true =>
      refine Ops.seg' 5 9 (by kernel_rfl) ?_
      refine Ops.one' 10 (fun h0 e0 => ixR (h := h0) (r := 1 + 1 + a) (N := N) (i := b) (hq_of (g := G) (e0.trans (by kernel_rfl)) hrow) rfl hb) (by kernel_rfl) (by kernel_rfl) ?_
      refine Ops.one' 11 (fun h0 e0 => stR (h := h0) (r := 1 + 1 + a) (i := b) (x := y) (hq_of (g := G) (e0.trans (by kernel_rfl)) hrow) (by simp; exact hb)) (by kernel_rfl) (by kernel_rfl) ?_
      refine Ops.done (by kernel_rfl) ?_
      refine blkH.n ?_
      exact fin y hf.symm _ (by kernel_rfl)
    | false =>
      refine Ops.seg' 5 9 (by kernel_rfl) ?_
      refine Ops.one' 10 (fun h0 e0 => ixR (h := h0) (r := 1 + 1 + a) (N := N) (i := b) (hq_of (g := G) (e0.trans (by kernel_rfl)) hrow) rfl hb) (by kernel_rfl) (by kernel_rfl) ?_
      refine Ops.one' 11 (fun h0 e0 => stR (h := h0) (r := 1 + 1 + a) (i := b) (x := false) (hq_of (g := G) (e0.trans (by kernel_rfl)) hrow) (by simp; exact hb)) (by kernel_rfl) (by kernel_rfl) ?_
      refine Ops.done (by kernel_rfl) ?_
      refine blkH.n ?_
      exact fin false hf.symm _ (by kernel_rfl)
  have hk6 : ¬ p.fKind = 6 := fun h => by rw [h] at hc; exact nomatch hc
  rw [if_neg hk6] at hf
  refine Ht.forget [2, 6, 8, 19, 20, 21, 22, 59, 60, 67, 68, 99] (Ht.st (σ' := SDk N t xs (a : Int) (b : Int) x y p.fKind G) (by kernel_rfl) ?_)
  refine Ht.seq (by kernel_rfl) ?_
  refine Ht.region (hxR hg n) (by kernel_rfl) ?_
  refine Ops.seg' 2 2 (by kernel_rfl) ?_
  refine Ops.done (by kernel_rfl) ?_
  refine seqH.n ?_
  refine Ht.cond (p.fKind == 7) (by kernel_rfl) (by kernel_rfl) (fun hc => ?_) (fun hc => ?_)
  · have hk := eq_of_beq hc
    rw [if_pos hk] at hf
    refine Ht.region (hxR hg n) (by kernel_rfl) ?_
    refine Ops.seg' 2 2 (by kernel_rfl) ?_
    refine Ops.one' 3 (fun h0 e0 => ixC (h := h0) (q := 1) (N := N) (i := a) (hq_of (g := G) (e0.trans (by kernel_rfl)) ho) rfl ha) (by kernel_rfl) (by kernel_rfl) ?_
    refine Ops.one' 4 (fun h0 e0 => ldC (h := h0) (q := 1) (i := a) (hq_of (g := G) (e0.trans (by kernel_rfl)) ho) (cell_at ha)) (by kernel_rfl) (by kernel_rfl) ?_
    cases x with
    | true =>
      refine Ops.seg' 6 10 (by kernel_rfl) ?_
      refine Ops.one' 11 (fun h0 e0 => ixR (h := h0) (r := 1 + 1 + a) (N := N) (i := b) (hq_of (g := G) (e0.trans (by kernel_rfl)) hrow) rfl hb) (by kernel_rfl) (by kernel_rfl) ?_
      refine Ops.one' 12 (fun h0 e0 => stR (h := h0) (r := 1 + 1 + a) (i := b) (x := !y) (hq_of (g := G) (e0.trans (by kernel_rfl)) hrow) (by simp; exact hb)) (by kernel_rfl) (by kernel_rfl) ?_
      refine Ops.done (by kernel_rfl) ?_
      refine blkH.n ?_
      exact fin (!y) hf.symm _ (by kernel_rfl)
    | false =>
      refine Ops.seg' 6 10 (by kernel_rfl) ?_
      refine Ops.one' 11 (fun h0 e0 => ixR (h := h0) (r := 1 + 1 + a) (N := N) (i := b) (hq_of (g := G) (e0.trans (by kernel_rfl)) hrow) rfl hb) (by kernel_rfl) (by kernel_rfl) ?_
      refine Ops.one' 12 (fun h0 e0 => stR (h := h0) (r := 1 + 1 + a) (i := b) (x := false) (hq_of (g := G) (e0.trans (by kernel_rfl)) hrow) (by simp; exact hb)) (by kernel_rfl) (by kernel_rfl) ?_
      refine Ops.done (by kernel_rfl) ?_
      refine blkH.n ?_
      exact fin false hf.symm _ (by kernel_rfl)
  have hk7 : ¬ p.fKind = 7 := fun h => by rw [h] at hc; exact nomatch hc
  rw [if_neg hk7] at hf
  refine Ht.skip (by kernel_rfl) ?_
  refine blkH.n ?_
  rw [meT_skip f N a b hf] at hT
  exact hQ G _ hbox hT (by kernel_rfl)
theorem subA {h : List AObj} {t : Nat} (x0 : Tb) (rs : List Tb) : (sliceD T [] 88 (D.unt (appF .nil t ((x0 :: rs).map mV))) (some (dI 1)) none none).map (·, h) = some (.v (.sl .plain (rs.map mV)), h) :=
  sub_r (T := T) h 88 69 1 .plain mV (x0 :: rs) rs (some 1) none rfl (by
    unfold sub
    rw [if_pos ⟨by decide, by simp; omega, by simp⟩]
    simp) (by kernel_rfl) (by kernel_rfl) (fun _ => rfl)
theorem innerD {r : Nat} (hg : Good False Proofs.Tryd.prog (ER r)) (n : Nat) (p : S24) (N t : Nat) (x0 : Tb) (rs : List Tb) (a : Nat) (hN : N ≤ 10001) (ha : a < N) (hx0 : Sq N x0) (hrs : ∀ s ∈ rs, Sq N s) (hrl : rs.length ≤ 200) {Q : Post}
    (hQ : ∀ G σ, G[0]? = some (boxP p) → Tab G 1 (meT (eachF p.fKind x0 rs) N (a + 1) 0) → Abs.forget [2, 6, 8, 59, 60] σ = SDo N t (x0 :: rs) (a : Int) G → Q (.exit 7) σ)
    (G : List AObj) (hbox : G[0]? = some (boxP p)) (hT : Tab G 1 (meT (eachF p.fKind x0 rs) N a 0)) : Ht False Proofs.Tryd.prog JD (SDi N t (x0 :: rs) (a : Int) 0 G) Q := by
  refine Ht.loop (fun k σ => ∃ (b : Nat) (G : List AObj), k = N - b ∧ b ≤ N ∧ G[0]? = some (boxP p) ∧ Tab G 1 (meT (eachF p.fKind x0 rs) N a b) ∧ Abs.forget [2, 6, 8, 19, 59, 60, 67, 68] σ = SDi N t (x0 :: rs) (a : Int) (b : Int) G) N (by kernel_rfl) ⟨0, G, rfl, Nat.zero_le _, hbox, hT, by kernel_rfl⟩ ?_
  clear hT hbox G
  rintro k σ ⟨b, G, rfl, hb, hbox, hT, hσ⟩
  refine Ht.forget [2, 6, 8, 19, 59, 60, 67, 68] (Ht.st hσ ?_)
  clear hσ
  refine Ht.seq (by kernel_rfl) ?_
  refine Ht.region (hxR hg n) (by kernel_rfl) ?_
  refine Ops.seg' 1 1 (by kernel_rfl) ?_
  refine Ops.done (by kernel_rfl) ?_
  refine seqH.n ?_
  refine Ht.seq (by kernel_rfl) ?_
  refine Ht.cond (decide ((b : Int) < (N : Int))) (by kernel_rfl) (by kernel_rfl) (fun hc => ?_) (fun hc => ?_)
  case refine_2 =>
    have hc := of_decide_eq_false hc
    have hb2 : b = N := by omega
    subst hb2
    refine Ht.exit (id := 7) (by kernel_rfl) ?_
    show Q (.exit 7) _
    rw [meT_next] at hT
    exact hQ G _ hbox hT (by kernel_rfl)
  have hc := of_decide_eq_true hc
  have hb : b < N := by omega
  have hw : w64 ((b : Int) + 1) = ((b + 1 : Nat) : Int) := by rw [w64_id ⟨by omega, by omega⟩]; omega
  have hix : idx (x0 :: rs) (0 : Int) = some x0 := rfl
  obtain ⟨ra, hra, hral, hrac⟩ := hx0.row ha
  refine Ht.skip (by kernel_rfl) ?_
  refine seqH.n ?_
  refine Ht.seq (by kernel_rfl) ?_
  refine Ht.block 8 (by kernel_rfl) ?_
  refine Ht.seq (by kernel_rfl) ?_
  refine Ht.region (hxR hg n) (by kernel_rfl) ?_
  refine Ops.seg' 2 2 (by kernel_rfl) ?_
  refine Ops.done (by kernel_rfl) ?_
  refine seqH.n ?_
  refine Ht.seq (by kernel_rfl) ?_
  refine Ht.region (hxR hg n) (by kernel_rfl) ?_
  refine Ops.seg' 1 1 (by kernel_rfl) ?_
  refine Ops.one' 2 (fun h0 e0 => ix_a (T := T) (g := .nil) h0 88 69 1 t mV (x0 :: rs) (0 : Int) x0 hix (by kernel_rfl) (by kernel_rfl) (fun _ => rfl)) (by kernel_rfl) (by kernel_rfl) ?_
  refine Ops.seg' 2 4 (by kernel_rfl) ?_
  refine Ops.one' 5 (fun h0 e0 => ixV69 (h := h0) (k := a) hra rfl) (by kernel_rfl) (by kernel_rfl) ?_
  refine Ops.seg' 2 7 (by kernel_rfl) ?_
  refine Ops.one' 8 (fun h0 e0 => ixV67 (h := h0) (j := b) (hrac b hb) rfl) (by kernel_rfl) (by kernel_rfl) ?_
  refine Ops.seg' 3 11 (by kernel_rfl) ?_
  refine Ops.done (by kernel_rfl) ?_
  refine seqH.n ?_
  refine Ht.forget [2, 6, 8, 19, 20, 21, 22, 59, 60, 67, 68] (Ht.st (σ' := SDx N t (x0 :: rs) (a : Int) (b : Int) (cell x0 a b) false G) (by kernel_rfl) ?_)
  refine Ht.seq (by kernel_rfl) ?_
  refine Ht.seq (by kernel_rfl) ?_
  refine Ht.region (hxR hg n) (by kernel_rfl) ?_
  refine Ops.seg' 1 1 (by kernel_rfl) ?_
  refine Ops.one' 2 (fun h0 e0 => subA (h := h0) (t := t) x0 rs) (by kernel_rfl) (by kernel_rfl) ?_
  refine Ops.one' 3 (fun h0 e0 => len_r (T := T) h0 88 69 .plain mV rs (by kernel_rfl)) (by kernel_rfl) (by kernel_rfl) ?_
  refine Ops.seg' 1 4 (by kernel_rfl) ?_
  refine Ops.done (by kernel_rfl) ?_
  refine seqH.n ?_
  refine Ht.block 9 (by kernel_rfl) ?_
  refine Ht.forget [2, 6, 8, 19, 20, 21, 22, 59, 60, 67, 68, 81, 82, 83] (Ht.st (σ' := SDr N t (x0 :: rs) rs (a : Int) (b : Int) (cell x0 a b) false 0 G) (by kernel_rfl) ?_)
  refine orD hg n N t (x0 :: rs) rs a b (cell x0 a b) ha hb hrs hrl G (fun σ hσ => ?_)
  refine blkH.x ?_
  refine seqH.n ?_
  refine Ht.forget [2, 6, 8, 19, 20, 21, 22, 59, 60, 67, 68] (Ht.st hσ ?_)
  clear hσ σ
  refine putD hg n p N t (x0 :: rs) a b (cell x0 a b) (rs.any fun s => cell s a b) ha hb (eachF p.fKind x0 rs) rfl G hbox hT (fun G' σ h1 h2 hσ => ?_)
  refine blkH.n ?_
  refine seqH.n ?_
  refine Ht.forget [2, 6, 8, 19, 59, 60, 67, 68] (Ht.st hσ ?_)
  refine Ht.region (hxR hg n) (by kernel_rfl) ?_
  refine Ops.seg' 2 2 (by kernel_rfl) ?_
  refine Ops.done (by kernel_rfl) ?_
  refine ⟨N - (b + 1), by omega, b + 1, G', rfl, hb, h1, h2, ?_⟩
  have e : ∀ x : Int, x = ((b + 1 : Nat) : Int) → SDi N t (x0 :: rs) (a : Int) x G' = SDi N t (x0 :: rs) (a : Int) ((b + 1 : Nat) : Int) G' := fun x hx => by rw [hx]
  refine Eq.trans ?_ (e _ hw)
  kernel_rfl
theorem kindD {r : Nat} (hg : Good False Proofs.Tryd.prog (ER r)) (n : Nat) (p : S24) (w : List Int) (t : Nat) (x0 : Tb) (rs : List Tb) (G0 : List AObj) (hw0 : w.length ≤ 10000) (hx0 : Sq (w.length + 1) x0) (hrs : ∀ s ∈ rs, Sq (w.length + 1) s) (hrl : rs.length ≤ 200)
    (hb0 : G0[0]? = some (boxP p)) (ht0 : Tab G0 1 (zM (w.length + 1))) :
    Ht False Proofs.Tryd.prog KD (S33k p w t (x0 :: rs) G0) (blkH 4 (seqH False Proofs.Tryd.prog (cR A33f) (MQ33 (eachM p.fKind (x0 :: rs) (w.length + 1))))) := by
  refine Ht.seq (by kernel_rfl) ?_
  refine Ht.region (hxR hg n) (by kernel_rfl) ?_
  refine Ops.seg' 3 3 (by kernel_rfl) ?_
  refine Ops.done (by kernel_rfl) ?_
  refine seqH.n ?_
  refine Ht.block 5 (by kernel_rfl) ?_
  obtain ⟨N, hN⟩ : ∃ N, N = w.length + 1 := ⟨_, rfl⟩
  refine Ht.forget [2, 6, 8, 59, 60] (Ht.st (σ' := SDo (w.length + 1) t (x0 :: rs) 0 G0) (by kernel_rfl) ?_)
  rw [← hN] at hx0 hrs ht0 ⊢
  refine Ht.loop (fun k σ => ∃ (a : Nat) (G : List AObj), k = N - a ∧ a ≤ N ∧ G[0]? = some (boxP p) ∧ Tab G 1 (meT (eachF p.fKind x0 rs) N a 0) ∧ Abs.forget [2, 6, 8, 59, 60] σ = SDo N t (x0 :: rs) (a : Int) G) N (by kernel_rfl) ⟨0, G0, rfl, Nat.zero_le _, hb0, by rw [meT_zero]; exact ht0, by kernel_rfl⟩ ?_
  clear hb0 ht0
  rintro k σ ⟨a, G, rfl, ha, hbox, hT, hσ⟩
  refine Ht.forget [2, 6, 8, 59, 60] (Ht.st hσ ?_)
  clear hσ
  refine Ht.seq (by kernel_rfl) ?_
  refine Ht.region (hxR hg n) (by kernel_rfl) ?_
  refine Ops.seg' 1 1 (by kernel_rfl) ?_
  refine Ops.done (by kernel_rfl) ?_
  refine seqH.n ?_
  refine Ht.seq (by kernel_rfl) ?_
  refine Ht.cond (decide ((a : Int) < (N : Int))) (by kernel_rfl) (by kernel_rfl) (fun hc => ?_) (fun hc => ?_)
  case refine_2 =>
    have hc := of_decide_eq_false hc
    have ha2 : a = N := by omega
    subst ha2
    refine Ht.exit (id := 5) (by kernel_rfl) ?_
    show Ht False Proofs.Tryd.prog (cR A33f) _ (MQ33 (eachM p.fKind (x0 :: rs) a))
    refine Ht.forget [6] (Ht.st (σ' := Sm 252 [(6, sN 1 a)] G) (by kernel_rfl) (end33 hg n 1 a _ G ?_ (mkM_sq _ _).1))
    rw [meT_full] at hT
    exact hT
  have hc := of_decide_eq_true hc
  have ha : a < N := by omega
  have hw : w64 ((a : Int) + 1) = ((a + 1 : Nat) : Int) := by rw [w64_id ⟨by omega, by omega⟩]; omega
  have ho := hT.cells (meT_len (eachF p.fKind x0 rs) N a 0)
  refine Ht.skip (by kernel_rfl) ?_
  refine seqH.n ?_
  refine Ht.seq (by kernel_rfl) ?_
  refine Ht.block 6 (by kernel_rfl) ?_
  refine Ht.seq (by kernel_rfl) ?_
  refine Ht.region (hxR hg n) (by kernel_rfl) ?_
  refine Ops.seg' 2 2 (by kernel_rfl) ?_
  refine Ops.done (by kernel_rfl) ?_
  refine seqH.n ?_
  refine Ht.seq (by kernel_rfl) ?_
  refine Ht.region (hxR hg n) (by kernel_rfl) ?_
  refine Ops.seg' 2 2 (by kernel_rfl) ?_
  refine Ops.one' 3 (fun h0 e0 => ixC (h := h0) (q := 1) (N := N) (i := a) (hq_of (g := G) (e0.trans (by kernel_rfl)) ho) rfl ha) (by kernel_rfl) (by kernel_rfl) ?_
  refine Ops.one' 4 (fun h0 e0 => ldC (h := h0) (q := 1) (i := a) (hq_of (g := G) (e0.trans (by kernel_rfl)) ho) (cell_at ha)) (by kernel_rfl) (by kernel_rfl) ?_
  refine Ops.seg' 2 6 (by kernel_rfl) ?_
  refine Ops.done (by kernel_rfl) ?_
  refine seqH.n ?_
  refine Ht.block 7 (by kernel_rfl) ?_
  refine Ht.forget [2, 6, 8, 19, 59, 60, 67, 68] (Ht.st (σ' := SDi N t (x0 :: rs) (a : Int) 0 G) (by kernel_rfl) ?_)
  refine innerD hg n p N t x0 rs a (by omega) ha hx0 hrs hrl (fun G' σ h1 h2 h3 => ?_) G hbox hT
  refine blkH.x ?_
  refine blkH.n ?_
  refine seqH.n ?_
  refine Ht.forget [2, 6, 8, 59, 60] (Ht.st h3 ?_)
  refine Ht.region (hxR hg n) (by kernel_rfl) ?_
  refine Ops.seg' 2 2 (by kernel_rfl) ?_
  refine Ops.done (by kernel_rfl) ?_
  refine ⟨N - (a + 1), by omega, a + 1, G', rfl, ha, h1, h2, ?_⟩
  have e : ∀ x : Int, x = ((a + 1 : Nat) : Int) → SDo N t (x0 :: rs) x G' = SDo N t (x0 :: rs) ((a + 1 : Nat) : Int) G' := fun x hx => by rw [hx]
  refine Eq.trans ?_ (e _ hw)
  kernel_rfl
theorem mtx_succ (r : Nat) (p : S24) (w : List Int) : mtx (r + 1) p w =
    if p.fKind = 1 then idM (w.length + 1) else if p.fKind = 2 then setM p.fLabels w
    else if p.fKind = 3 then (p.fSubs.map fun q => mtx r q.vw w).foldl (fun m s => thenM m s (w.length + 1)) (idM (w.length + 1))
    else if p.fKind = 5 then
      repM ((p.fSubs.map fun q => mtx r q.vw w).headD []) (w.length + 1) (if p.fMost < 0 then w.length else (p.fMost - p.fLeast).toNat)
        (powM ((p.fSubs.map fun q => mtx r q.vw w).headD []) (w.length + 1) p.fLeast.toNat (idM (w.length + 1)))
        (powM ((p.fSubs.map fun q => mtx r q.vw w).headD []) (w.length + 1) p.fLeast.toNat (idM (w.length + 1)))
    else eachM p.fKind (p.fSubs.map fun q => mtx r q.vw w) (w.length + 1) := rfl
theorem mat33 {r : Nat} (hg : Good False Proofs.Tryd.prog (ER r)) (n : Nat) (p : S24) (w : List Int) (hp : OkM (r + 1) p) (hw : w.length ≤ 10000) :
    Ht False Proofs.Tryd.prog C33 (startIn Proofs.Tryd.prog 33 [.v (e24 p), .v (vP eI w)] []) (MQ33 (mtx (r + 1) p w)) := by
  obtain ⟨h1, h2, h3, h4, h5, h6⟩ := hp
  refine rows33 hg (n + 1) p w hw (fun G0 hb0 hT0 => ?_)
  refine subs33 hg n p w hw h3 h4 G0 hb0 (fun G t hG => ?_)
  have hb : G[0]? = some (boxP p) := by rw [hG.2 0 (lt_of_getElem? hb0)]; exact hb0
  have hT := hT0.pre hG
  clear hb0 hT0 hG
  have hxs : ∀ s ∈ (p.fSubs.map fun q => mtx r q.vw w), Sq (w.length + 1) s := fun s hs => by
    obtain ⟨q, hq, rfl⟩ := List.mem_map.1 hs
    exact mtx_sq r q.vw w (h4 q hq)
  have hxl : (p.fSubs.map fun q => mtx r q.vw w).length ≤ 200 := by rw [List.length_map]; exact h3
  have hne : p.fSubs ≠ [] → (p.fSubs.map fun q => mtx r q.vw w) ≠ [] := fun h e => h (List.map_eq_nil_iff.1 e)
  have h51 : p.fKind = 5 → (p.fSubs.map fun q => mtx r q.vw w).length = 1 := fun h => by rw [List.length_map]; exact (h5 h).1
  rw [mtx_succ]
  generalize (p.fSubs.map fun q => mtx r q.vw w) = xs at hxs hxl hne h51 ⊢
  refine disp33 hg n p w t xs G hb ?_
  by_cases k1 : p.fKind = 1
  · rw [if_pos k1]; exact kind1 hg n p w t xs G hw k1
  rw [if_neg k1]
  refine skip1 hg n p w t xs G k1 ?_
  by_cases k2 : p.fKind = 2
  · rw [if_pos k2]; exact kind2 hg n p w t xs G hw k2 ⟨h1, h2⟩ hb hT
  rw [if_neg k2]
  refine skip2 hg n p w t xs G k2 ?_
  by_cases k3 : p.fKind = 3
  · rw [if_pos k3]; exact kind3 hg n p w t xs G hw k3 hxs hxl
  rw [if_neg k3]
  refine skip3 hg n p w t xs G k3 ?_
  by_cases k5 : p.fKind = 5
  · rw [if_pos k5]
    obtain ⟨_, g1, g2, g3, g4⟩ := h5 k5
    have hl := h51 k5
    match xs, hl with
    | [s], _ =>
      have hs := hxs s List.mem_cons_self
      have hM : moreM p w ≤ 10000 := by unfold moreM; split <;> omega
      have hR : repM s (w.length + 1) (moreM p w).toNat (powM s (w.length + 1) p.fLeast.toNat (idM (w.length + 1))) (powM s (w.length + 1) p.fLeast.toNat (idM (w.length + 1)))
        = repM s (w.length + 1) (if p.fMost < 0 then w.length else (p.fMost - p.fLeast).toNat) (powM s (w.length + 1) p.fLeast.toNat (idM (w.length + 1))) (powM s (w.length + 1) p.fLeast.toNat (idM (w.length + 1))) := by
        unfold moreM
        by_cases hm : p.fMost < 0
        · rw [if_pos hm, if_pos hm, Int.toNat_natCast]
        · rw [if_neg hm, if_neg hm]
      refine kind5a hg n p w t [s] s G hw k5 rfl hs g1 g2 hb (fun q G' hG' hT' => ?_)
      have hb' : G'[0]? = some (boxP p) := by rw [hG'.2 0 (lt_of_getElem? hb)]; exact hb
      refine kind5b hg n p w q t [s] G' hb' g1 g2 g3 g4 ?_
      exact kind5c hg n p w q t [s] s _ G' hw rfl hs (powM_sq _ _ _ _ (idM_sq _)) (moreM p w) hM hT' hR
  rw [if_neg k5]
  refine skip5 hg n p w t xs G k5 ?_
  have hne := hne (h6 k1 k2 k3 k5)
  match xs, hne with
  | x0 :: rs, _ =>
    have hl : rs.length + 1 ≤ 200 := hxl
    exact kindD hg n p w t x0 rs G hw (hxs x0 List.mem_cons_self) (fun s hs => hxs s (List.mem_cons_of_mem _ hs)) (by omega) hb hT
theorem calls_of_ht {DR : Prop} {P : Program} {f : Nat} {fn : Func} {c : Code} {T : Nat → Option TI} (hfn : P.funcs[f]? = some fn) (hc : fn.body = some c) (hT : ∀ t i, T t = some i → tiOf P t = some i) {xs : List V} {r : V} {N : Nat}
    (ht : Ht DR P (bodyOf P f) (startIn P f (xs.map .v) []) (fun e σ => (e = .normal ∨ e = .ret) ∧ ∃ d, resultsD T σ (resOf P f) = some d ∧ frz σ.heap N d = some r)) {S : Nat → Nat → Prop} {w : World} {us : Array Value} (hrel : RelL S [] w us (xs.map .v)) (hS : ∀ b i, S b i → b < w.heap.size) (hG : Glob S w) :
    Calls P f us w fun e w' => ∃ v S', e = .returned v ∧ Ext DR S [] w S' [] w' ∧ HInv S' [] w' [] ∧ RelV S' w' v r := by
  have hi := hinv_nil hS hG
  refine (callT_of_ht (Qc := fun d h' => frz h' N d = some r) hfn hc hT ht S [] w us hrel hi).mono ?_
  rintro e w' ⟨d, h', v, S1, β1, hz, rfl, hE1, hI1, hR1⟩
  have hin : ∀ b i, withOwn S1 β1 h' b i → S b i ∨ w.heap.size ≤ b := by
    intro b i hs
    rcases hs with hs | ⟨q, o, c, k, g1, g2, g3⟩
    · rcases hE1.stay b i hs with g | g | ⟨q, c, k, g⟩
      · exact .inl g
      · exact .inr g
      · simp at g
    · obtain ⟨k', rfl⟩ := hI1.kpos g1 g2 g3
      rcases hE1.fresh q b c k' g3 with g | ⟨q', c', k'', g⟩
      · exact .inr g
      · simp at g
  obtain ⟨b1, b2⟩ := back_from (S' := withOwn S1 β1 h') (h1 := h') hi hE1 (fun _ _ h => h) (fun b i hs => .inl (hE1.keeps b i hs).1) hin (own_sb hI1)
  exact ⟨v, _, rfl, b1, b2, frz_sound hI1 N _ _ _ hz hR1⟩
theorem matOk : ∀ r, OraOk False Proofs.Tryd.prog 33 (matF r)
  | 0 => ⟨is33, fun vs v hF => by
      obtain ⟨p, u, _, h1, _⟩ := matF_of hF
      exact h1.elim⟩
  | r + 1 => ⟨is33, fun vs v hF S w us hrel hs hgl => by
      obtain ⟨p, u, rfl, h1, h2, rfl⟩ := matF_of hF
      exact calls_of_ht (c := C33) (T := T) (N := 15) (xs := [e24 p, vP eI u]) (r := mV (mtx (r + 1) p u)) Proofs.Tryd.func33 (by kernel_rfl) T_ok (mat33 (ER_good good (matOk r)) 0 p u h1 h2) hrel hs hgl⟩
noncomputable def oraG (f : Nat) : Option (List V → Option V) := match f with
  | 33 => some (matF 70)
  | f => oraT f
noncomputable def EG : Env := { E with ora := oraG }
theorem oraG_ok : OSound False Proofs.Tryd.prog EG := by
  intro f F h
  have h : oraG f = some F := h
  unfold oraG at h
  split at h
  · cases h; exact matOk 70
  · exact ora_ok f F h
theorem goodG : Good False Proofs.Tryd.prog EG := ⟨good.mixed, T_ok, names_ok, oraG_ok, (fun f F h => by cases h)⟩
open Classical in
noncomputable def f33 (m : Nat) (a0 : S24) (a1 : List Int) : Option Tb := if OkM 70 a0 ∧ a1.length ≤ 10000 then some (mtx 70 a0 a1) else none
theorem mV_eL (b : Tb) : mV b = eL (eL eB) b := rfl
theorem ok33 (m : Nat) (a0 : S24) (a1 : List Int) (o : Tb) (h : f33 m a0 a1 = some o) (n : Nat) (hn : m + 1 ≤ n) : Fn Proofs.Tryd.prog EG n 33 [.v (e24 a0), .v (vP eI a1)] ((eL (eL eB)) o) := by
  obtain ⟨n, rfl⟩ : ∃ q, n = q + 1 := ⟨n - 1, by omega⟩
  unfold f33 at h
  split at h
  case isFalse => cases h
  case isTrue hc =>
    cases h
    exact ora_fn (F := matF 70) (xs := [e24 a0, vP eI a1]) (by kernel_rfl) rfl rfl (matF_eq 70 a0 a1 hc.1 hc.2) rfl
end Go.Abs
