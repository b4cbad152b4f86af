import Derived.Test.YthiikobbfpfbkaaDoorMC8
namespace Go.Abs
open Go.Sort Go.Proofs
set_option linter.unusedVariables false
set_option maxRecDepth 100000
set_option maxHeartbeats 2000000
theorem Sq.eta {N : Nat} {m : Tb} (h : Sq N m) : mkM N (fun i j => cell m i j) = m := by
  refine List.ext_getElem? fun i => ?_
  by_cases hi : i < N
  · obtain ⟨r, h1, h2, h3⟩ := h.row hi
    rw [mkM_row _ hi, h1]
    congr 1
    refine List.ext_getElem? fun j => ?_
    by_cases hj : j < N
    · rw [List.getElem?_map, List.getElem?_range hj, h3 j hj]; rfl
    · rw [List.getElem?_eq_none (by simp; omega), List.getElem?_eq_none (by omega)]
  · rw [List.getElem?_eq_none (by simp [mkM]; omega), List.getElem?_eq_none (by rw [h.1]; omega)]
theorem Tab.oth {h : List AObj} {q r : Nat} {rows : Tb} {o : AObj} (ht : Tab h q rows) (hr : r < q) : Tab (h.set r o) q rows :=
  ⟨by rw [List.getElem?_set_ne (by omega)]; exact ht.1, fun i r' hi => ⟨(ht.2 i r' hi).1, by rw [List.getElem?_set_ne (by omega)]; exact (ht.2 i r' hi).2⟩⟩
theorem Tab.cells {h : List AObj} {q N : Nat} {rows : Tb} (ht : Tab h q rows) (hl : rows.length = N) : h[q]? = some (.cells ((List.range N).map fun t => sN (q + 1 + t) N)) := by
  subst hl; exact ht.1
theorem cell_at {q N i : Nat} (hi : i < N) : ((List.range N).map fun t => sN (q + 1 + t) N)[i]? = some (sN (q + 1 + i) N) := by rw [List.getElem?_map, List.getElem?_range hi]; rfl
def morF (m pt : Tb) (a b : Nat) (x y : Nat) : Bool := if x < a ∨ (x = a ∧ y < b) then cell m x y || cell pt x y else cell m x y
def morT (m pt : Tb) (N a b : Nat) : Tb := mkM N (morF m pt a b)
theorem morT_len (m pt : Tb) (N a b : Nat) : (morT m pt N a b).length = N := (mkM_sq _ _).1
theorem morT_zero {m : Tb} {N : Nat} (pt : Tb) (h : Sq N m) : morT m pt N 0 0 = m := by
  refine Eq.trans (mkM_congr fun i j _ _ => ?_) h.eta
  unfold morF
  rw [if_neg (by omega)]
theorem morT_full (m pt : Tb) (N : Nat) : morT m pt N N 0 = orM m pt N := mkM_congr fun i j hi _ => by
  unfold morF
  rw [if_pos (by omega)]
theorem morT_next (m pt : Tb) (N a : Nat) : morT m pt N a N = morT m pt N (a + 1) 0 := mkM_congr fun i j hi hj => by
  unfold morF
  by_cases h : i < a ∨ (i = a ∧ j < N)
  · rw [if_pos h, if_pos (by omega)]
  · rw [if_neg h, if_neg (by omega)]
theorem morT_set (m pt : Tb) {N a b : Nat} (ha : a < N) (hb : b < N) : (morT m pt N a b).set a (((List.range N).map fun y => morF m pt a b a y).set b (cell m a b || cell pt a b)) = morT m pt N a (b + 1) := by
  refine Eq.trans (mkM_set (morF m pt a b) ha hb _) (mkM_congr fun i j hi hj => ?_)
  unfold morF
  by_cases h : i = a ∧ j = b
  · obtain ⟨rfl, rfl⟩ := h
    rw [if_pos ⟨rfl, rfl⟩, if_pos (by omega)]
  · rw [if_neg h]
    by_cases h2 : i < a ∨ (i = a ∧ j < b)
    · rw [if_pos h2, if_pos (by omega)]
    · rw [if_neg h2, if_neg (by omega)]
noncomputable abbrev L5 : Code := cL (cR (cR N5))
noncomputable abbrev Xc5 : Code := cL (cL (cR (cR (cL L5))))
noncomputable abbrev O5 : Code := cL (cR (cR Xc5))
noncomputable abbrev Y5 : Code := cL (cL (cR (cR (cL O5))))
noncomputable abbrev I5 : Code := cL (cR (cR Y5))
abbrev S5l (q qp N t : Nat) (xs : List Tb) (m i : Int) (G : List AObj) : St := Sm 252 [(6, sN q N), (8, appF .nil t (xs.map mV)), (16, sN qp N), (205, dI m), (206, dI i)] G
abbrev S5o (q qp N t : Nat) (xs : List Tb) (m i a : Int) (G : List AObj) : St := Sm 252 [(6, sN q N), (8, appF .nil t (xs.map mV)), (16, sN qp N), (205, dI m), (206, dI i), (214, dI (N : Int)), (215, dI a)] G
abbrev S5p (q qp N t : Nat) (xs : List Tb) (m i a b : Int) (G : List AObj) : St := Sm 252 [(6, sN q N), (8, appF .nil t (xs.map mV)), (16, sN qp N), (17, dI a), (205, dI m), (206, dI i), (214, dI (N : Int)), (215, dI a), (222, dI (N : Int)), (223, dI b)] G
abbrev S5q (q qp N t : Nat) (xs : List Tb) (m i a b : Int) (G : List AObj) : St := Sm 252 [(6, sN q N), (8, appF .nil t (xs.map mV)), (16, sN qp N), (17, dI a), (18, dI b), (205, dI m), (206, dI i), (214, dI (N : Int)), (215, dI a), (222, dI (N : Int)), (223, dI b)] G
theorem inner5 {r : Nat} (hg : Good False Proofs.Tryd.prog (ER r)) (n : Nat) (q qp N t : Nat) (xs : List Tb) (m i : Int) (a : Nat) (hN : N ≤ 10001) (ha : a < N) (mt pt : Tb) (hp0 : Sq N pt) (hap : q + N < qp) {Q : Post}
    (hQ : ∀ G σ, Tab G q (morT mt pt N (a + 1) 0) → Tab G qp pt → Abs.forget [6, 8, 16, 205, 206, 214, 215] σ = S5o q qp N t xs m i (a : Int) G → Q (.exit 22) σ)
    (G : List AObj) (hT : Tab G q (morT mt pt N a 0)) (hP : Tab G qp pt) : Ht False Proofs.Tryd.prog I5 (S5p q qp N t xs m i (a : Int) 0 G) Q := by
  refine Ht.loop (fun f σ => ∃ (b : Nat) (G : List AObj), f = N - b ∧ b ≤ N ∧ Tab G q (morT mt pt N a b) ∧ Tab G qp pt ∧ Abs.forget [6, 8, 16, 17, 205, 206, 214, 215, 222, 223] σ = S5p q qp N t xs m i (a : Int) (b : Int) G) N (by kernel_rfl) ⟨0, G, rfl, Nat.zero_le _, hT, hP, by kernel_rfl⟩ ?_
  clear hT hP G
  rintro f σ ⟨b, G, rfl, hb, hT, hP, hσ⟩
  refine Ht.forget [6, 8, 16, 17, 205, 206, 214, 215, 222, 223] (Ht.st hσ ?_)
  clear hσ
  refine Ht.seq (by kernel_rfl) ?_
  refine Ht.region (hxR hg n) (by kernel_rfl) ?_
  refine Ops.seg' 1 1 (by kernel_rfl) ?_
  refine Ops.done (by kernel_rfl) ?_
  refine seqH.n ?_
  refine Ht.seq (by kernel_rfl) ?_
  refine Ht.cond (decide ((b : Int) < (N : Int))) (by kernel_rfl) (by kernel_rfl) (fun hc => ?_) (fun hc => ?_)
  case refine_2 =>
    have hc := of_decide_eq_false hc
    have hb2 : b = N := by omega
    subst hb2
    refine Ht.exit (id := 22) (by kernel_rfl) ?_
    show Q (.exit 22) _
    rw [morT_next] at hT
    exact hQ G _ hT hP (by kernel_rfl)
  have hc := of_decide_eq_true hc
  have hb : b < N := by omega
  have hw : w64 ((b : Int) + 1) = ((b + 1 : Nat) : Int) := by rw [w64_id ⟨by omega, by omega⟩]; omega
  have ho := hT.cells (morT_len mt pt N a b)
  have hop := hP.cells hp0.1
  have hrow : G[q + 1 + a]? = some (bO ((List.range N).map fun y => morF mt pt a b a y)) := (hT.2 a _ (mkM_row _ ha)).2
  obtain ⟨rp, hrp, hrl, hrc⟩ := hp0.row ha
  have hrowp : G[qp + 1 + a]? = some (bO rp) := (hP.2 a _ hrp).2
  have hx0 : ((List.range N).map fun y => morF mt pt a b a y)[b]? = some (cell mt a b) := by
    rw [List.getElem?_map, List.getElem?_range hb]
    show some (morF mt pt a b a b) = _
    unfold morF
    rw [if_neg (by omega)]
  have fin : ∀ v, v = (cell mt a b || cell pt a b) → lpH (fun f σ => ∃ (b : Nat) (G : List AObj), f = N - b ∧ b ≤ N ∧ Tab G q (morT mt pt N a b) ∧ Tab G qp pt ∧ Abs.forget [6, 8, 16, 17, 205, 206, 214, 215, 222, 223] σ = S5p q qp N t xs m i (a : Int) (b : Int) G) (N - b) Q .normal
      (S5p q qp N t xs m i (a : Int) (w64 ((b : Int) + 1)) (G.set (q + 1 + a) (bO (((List.range N).map fun y => morF mt pt a b a y).set b v)))) := by
    intro v hv
    subst hv
    have hT2 := hT.upd (i := a) (r := ((List.range N).map fun y => morF mt pt a b a y).set b (cell mt a b || cell pt a b)) (by rw [morT_len]; exact ha) (by rw [morT_len]; simp)
    rw [morT_set mt pt ha hb] at hT2
    refine ⟨N - (b + 1), by omega, b + 1, _, rfl, hb, hT2, hP.oth (by omega), ?_⟩
    rw [hw]
    kernel_rfl
  refine Ht.skip (by kernel_rfl) ?_
  refine seqH.n ?_
  refine Ht.seq (by kernel_rfl) ?_
  refine Ht.block 23 (by kernel_rfl) ?_
  refine Ht.seq (by kernel_rfl) ?_
  refine Ht.region (hxR hg n) (by kernel_rfl) ?_
  refine Ops.seg' 2 2 (by kernel_rfl) ?_
  refine Ops.done (by kernel_rfl) ?_
  refine seqH.n ?_
  refine Ht.forget [6, 8, 16, 17, 18, 205, 206, 214, 215, 222, 223] (Ht.st (σ' := S5q q qp N t xs m i (a : Int) (b : Int) G) (by kernel_rfl) ?_)
  refine Ht.region (hxR hg n) (by kernel_rfl) ?_
  refine Ops.seg' 2 2 (by kernel_rfl) ?_
  refine Ops.one' 3 (fun h0 e0 => ixC (h := h0) (q := q) (N := N) (i := a) (hq_of (g := G) (e0.trans (by kernel_rfl)) ho) rfl ha) (by kernel_rfl) (by kernel_rfl) ?_
  refine Ops.one' 4 (fun h0 e0 => ldC (h := h0) (q := q) (i := a) (hq_of (g := G) (e0.trans (by kernel_rfl)) ho) (cell_at ha)) (by kernel_rfl) (by kernel_rfl) ?_
  refine Ops.seg' 3 7 (by kernel_rfl) ?_
  refine Ops.one' 8 (fun h0 e0 => ixC (h := h0) (q := q) (N := N) (i := a) (hq_of (g := G) (e0.trans (by kernel_rfl)) ho) rfl ha) (by kernel_rfl) (by kernel_rfl) ?_
  refine Ops.one' 9 (fun h0 e0 => ldC (h := h0) (q := q) (i := a) (hq_of (g := G) (e0.trans (by kernel_rfl)) ho) (cell_at ha)) (by kernel_rfl) (by kernel_rfl) ?_
  refine Ops.seg' 1 10 (by kernel_rfl) ?_
  refine Ops.one' 11 (fun h0 e0 => ixR (h := h0) (r := q + 1 + a) (N := N) (i := b) (hq_of (g := G) (e0.trans (by kernel_rfl)) hrow) rfl hb) (by kernel_rfl) (by kernel_rfl) ?_
  refine Ops.one' 12 (fun h0 e0 => ldR (h := h0) (r := q + 1 + a) (i := b) (hq_of (g := G) (e0.trans (by kernel_rfl)) hrow) hx0) (by kernel_rfl) (by kernel_rfl) ?_
  generalize hv : cell mt a b = x0 at fin hx0 ⊢
  cases x0 with
  | true =>
    refine Ops.seg' 9 21 (by kernel_rfl) ?_
    refine Ops.one' 22 (fun h0 e0 => ixR (h := h0) (r := q + 1 + a) (N := N) (i := b) (hq_of (g := G) (e0.trans (by kernel_rfl)) hrow) rfl hb) (by kernel_rfl) (by kernel_rfl) ?_
    refine Ops.one' 23 (fun h0 e0 => stR (h := h0) (r := q + 1 + a) (i := b) (x := true) (hq_of (g := G) (e0.trans (by kernel_rfl)) hrow) (by simp; exact hb)) (by kernel_rfl) (by kernel_rfl) ?_
    refine Ops.done (by kernel_rfl) ?_
    refine blkH.n ?_
    refine seqH.n ?_
    refine Ht.forget [6, 8, 16, 17, 205, 206, 214, 215, 222, 223] (Ht.st (σ' := S5p q qp N t xs m i (a : Int) (b : Int) (G.set (q + 1 + a) (bO (((List.range N).map fun y => morF mt pt a b a y).set b true)))) (by kernel_rfl) ?_)
    refine Ht.region (hxR hg n) (by kernel_rfl) ?_
    refine Ops.seg' 2 2 (by kernel_rfl) ?_
    refine Ops.done (by kernel_rfl) ?_
    obtain ⟨f, h1, j', G', h2, h3, h4, h5, h6⟩ := fin true rfl
    exact ⟨f, h1, j', G', h2, h3, h4, h5, Eq.trans (by kernel_rfl) h6⟩
  | false =>
    refine Ops.seg' 3 15 (by kernel_rfl) ?_
    refine Ops.one' 16 (fun h0 e0 => ixC (h := h0) (q := qp) (N := N) (i := a) (hq_of (g := G) (e0.trans (by kernel_rfl)) hop) rfl ha) (by kernel_rfl) (by kernel_rfl) ?_
    refine Ops.one' 17 (fun h0 e0 => ldC (h := h0) (q := qp) (i := a) (hq_of (g := G) (e0.trans (by kernel_rfl)) hop) (cell_at ha)) (by kernel_rfl) (by kernel_rfl) ?_
    refine Ops.seg' 1 18 (by kernel_rfl) ?_
    refine Ops.one' 19 (fun h0 e0 => ixR (h := h0) (r := qp + 1 + a) (N := N) (i := b) (hq_of (g := G) (e0.trans (by kernel_rfl)) hrowp) rfl hb) (by kernel_rfl) (by kernel_rfl) ?_
    refine Ops.one' 20 (fun h0 e0 => ldR (h := h0) (r := qp + 1 + a) (i := b) (hq_of (g := G) (e0.trans (by kernel_rfl)) hrowp) (hrc b hb)) (by kernel_rfl) (by kernel_rfl) ?_
    refine Ops.seg' 1 21 (by kernel_rfl) ?_
    refine Ops.one' 22 (fun h0 e0 => ixR (h := h0) (r := q + 1 + a) (N := N) (i := b) (hq_of (g := G) (e0.trans (by kernel_rfl)) hrow) rfl hb) (by kernel_rfl) (by kernel_rfl) ?_
    refine Ops.one' 23 (fun h0 e0 => stR (h := h0) (r := q + 1 + a) (i := b) (x := cell pt a b) (hq_of (g := G) (e0.trans (by kernel_rfl)) hrow) (by simp; exact hb)) (by kernel_rfl) (by kernel_rfl) ?_
    refine Ops.done (by kernel_rfl) ?_
    refine blkH.n ?_
    refine seqH.n ?_
    refine Ht.forget [6, 8, 16, 17, 205, 206, 214, 215, 222, 223] (Ht.st (σ' := S5p q qp N t xs m i (a : Int) (b : Int) (G.set (q + 1 + a) (bO (((List.range N).map fun y => morF mt pt a b a y).set b (cell pt a b))))) (by kernel_rfl) ?_)
    refine Ht.region (hxR hg n) (by kernel_rfl) ?_
    refine Ops.seg' 2 2 (by kernel_rfl) ?_
    refine Ops.done (by kernel_rfl) ?_
    obtain ⟨f, h1, j', G', h2, h3, h4, h5, h6⟩ := fin (cell pt a b) rfl
    exact ⟨f, h1, j', G', h2, h3, h4, h5, Eq.trans (by kernel_rfl) h6⟩
theorem outer5 {r : Nat} (hg : Good False Proofs.Tryd.prog (ER r)) (n : Nat) (q qp N t : Nat) (xs : List Tb) (m i : Int) (hN : N ≤ 10001) (mt pt : Tb) (hm0 : Sq N mt) (hp0 : Sq N pt) (hap : q + N < qp) {Q : Post}
    (hQ : ∀ G σ, Tab G q (orM mt pt N) → Tab G qp pt → Abs.forget [6, 8, 16, 205, 206] σ = S5l q qp N t xs m i G → Q (.exit 20) σ)
    (G : List AObj) (hT : Tab G q mt) (hP : Tab G qp pt) : Ht False Proofs.Tryd.prog O5 (S5o q qp N t xs m i 0 G) Q := by
  refine Ht.loop (fun f σ => ∃ (a : Nat) (G : List AObj), f = N - a ∧ a ≤ N ∧ Tab G q (morT mt pt N a 0) ∧ Tab G qp pt ∧ Abs.forget [6, 8, 16, 205, 206, 214, 215] σ = S5o q qp N t xs m i (a : Int) G) N (by kernel_rfl) ⟨0, G, rfl, Nat.zero_le _, by rw [morT_zero pt hm0]; exact hT, hP, by kernel_rfl⟩ ?_
  clear hT hP G
  rintro f σ ⟨a, G, rfl, ha, hT, hP, hσ⟩
  refine Ht.forget [6, 8, 16, 205, 206, 214, 215] (Ht.st hσ ?_)
  clear hσ
  refine Ht.seq (by kernel_rfl) ?_
  refine Ht.region (hxR hg n) (by kernel_rfl) ?_
  refine Ops.seg' 1 1 (by kernel_rfl) ?_
  refine Ops.done (by kernel_rfl) ?_
  refine seqH.n ?_
  refine Ht.seq (by kernel_rfl) ?_
  refine Ht.cond (decide ((a : Int) < (N : Int))) (by kernel_rfl) (by kernel_rfl) (fun hc => ?_) (fun hc => ?_)
  case refine_2 =>
    have hc := of_decide_eq_false hc
    have ha2 : a = N := by omega
    subst ha2
    refine Ht.exit (id := 20) (by kernel_rfl) ?_
    show Q (.exit 20) _
    rw [morT_full] at hT
    exact hQ G _ hT hP (by kernel_rfl)
  have hc := of_decide_eq_true hc
  have ha : a < N := by omega
  have hw : w64 ((a : Int) + 1) = ((a + 1 : Nat) : Int) := by rw [w64_id ⟨by omega, by omega⟩]; omega
  have ho := hT.cells (morT_len mt pt N a 0)
  refine Ht.skip (by kernel_rfl) ?_
  refine seqH.n ?_
  refine Ht.seq (by kernel_rfl) ?_
  refine Ht.block 21 (by kernel_rfl) ?_
  refine Ht.seq (by kernel_rfl) ?_
  refine Ht.region (hxR hg n) (by kernel_rfl) ?_
  refine Ops.seg' 2 2 (by kernel_rfl) ?_
  refine Ops.done (by kernel_rfl) ?_
  refine seqH.n ?_
  refine Ht.seq (by kernel_rfl) ?_
  refine Ht.region (hxR hg n) (by kernel_rfl) ?_
  refine Ops.seg' 2 2 (by kernel_rfl) ?_
  refine Ops.one' 3 (fun h0 e0 => ixC (h := h0) (q := q) (N := N) (i := a) (hq_of (g := G) (e0.trans (by kernel_rfl)) ho) rfl ha) (by kernel_rfl) (by kernel_rfl) ?_
  refine Ops.one' 4 (fun h0 e0 => ldC (h := h0) (q := q) (i := a) (hq_of (g := G) (e0.trans (by kernel_rfl)) ho) (cell_at ha)) (by kernel_rfl) (by kernel_rfl) ?_
  refine Ops.seg' 2 6 (by kernel_rfl) ?_
  refine Ops.done (by kernel_rfl) ?_
  refine seqH.n ?_
  refine Ht.block 22 (by kernel_rfl) ?_
  refine Ht.forget [6, 8, 16, 17, 205, 206, 214, 215, 222, 223] (Ht.st (σ' := S5p q qp N t xs m i (a : Int) 0 G) (by kernel_rfl) ?_)
  refine inner5 hg n q qp N t xs m i a hN ha mt pt hp0 hap (fun G' σ h1 h2 h3 => ?_) G hT hP
  refine blkH.x ?_
  refine blkH.n ?_
  refine seqH.n ?_
  refine Ht.forget [6, 8, 16, 205, 206, 214, 215] (Ht.st h3 ?_)
  refine Ht.region (hxR hg n) (by kernel_rfl) ?_
  refine Ops.seg' 2 2 (by kernel_rfl) ?_
  refine Ops.done (by kernel_rfl) ?_
  refine ⟨N - (a + 1), by omega, a + 1, G', rfl, ha, h1, h2, ?_⟩
  have e : ∀ x : Int, x = ((a + 1 : Nat) : Int) → S5o q qp N t xs m i x G' = S5o q qp N t xs m i ((a + 1 : Nat) : Int) G' := fun x hx => by rw [hx]
  refine Eq.trans ?_ (e _ hw)
  kernel_rfl
theorem kind5c {r : Nat} (hg : Good False Proofs.Tryd.prog (ER r)) (n : Nat) (p : S24) (w : List Int) (q t : Nat) (xs : List Tb) (s mt : Tb) (G : List AObj) (hw0 : w.length ≤ 10000) (hs : xs[0]? = some s) (hq : Sq (w.length + 1) s) (hm0 : Sq (w.length + 1) mt)
    (M : Int) (hM : M ≤ 10000) (hT : Tab G q mt) {R : Tb} (hR : repM s (w.length + 1) M.toNat mt mt = R) :
    Ht False Proofs.Tryd.prog N5 (S5c w q t xs M G) (blkH 4 (seqH False Proofs.Tryd.prog (cR A33f) (MQ33 R))) := by
  have hix : idx xs (0 : Int) = some s := by simp [idx, hs]
  refine Ht.seq (by kernel_rfl) ?_
  refine Ht.region (hxR hg n) (by kernel_rfl) ?_
  refine Ops.seg' 2 2 (by kernel_rfl) ?_
  refine Ops.done (by kernel_rfl) ?_
  refine seqH.n ?_
  refine Ht.seq (by kernel_rfl) ?_
  refine Ht.region (hxR hg n) (by kernel_rfl) ?_
  refine Ops.seg' 2 2 (by kernel_rfl) ?_
  refine Ops.done (by kernel_rfl) ?_
  refine seqH.n ?_
  refine Ht.block 18 (by kernel_rfl) ?_
  refine Ht.loop (fun k σ => ∃ (i qp : Nat) (m pt : Tb) (G : List AObj), k = M.toNat - i ∧ i ≤ M.toNat ∧ Sq (w.length + 1) m ∧ Sq (w.length + 1) pt ∧ Tab G q m ∧ Tab G qp pt ∧ repM s (w.length + 1) (M.toNat - i) m pt = R ∧ Abs.forget [6, 8, 16, 205, 206] σ = S5l q qp (w.length + 1) t xs M (i : Int) G) M.toNat (by kernel_rfl) ⟨0, q, mt, mt, G, rfl, Nat.zero_le _, hm0, hm0, hT, hT, hR, by kernel_rfl⟩ ?_
  clear hT hR G hm0 mt
  rintro k σ ⟨i, qp, mt, pt, G, rfl, hi, hm0, hp0, hT, hP, hR, hσ⟩
  refine Ht.forget [6, 8, 16, 205, 206] (Ht.st hσ ?_)
  clear hσ
  refine Ht.seq (by kernel_rfl) ?_
  refine Ht.region (hxR hg n) (by kernel_rfl) ?_
  refine Ops.seg' 1 1 (by kernel_rfl) ?_
  refine Ops.done (by kernel_rfl) ?_
  refine seqH.n ?_
  refine Ht.seq (by kernel_rfl) ?_
  refine Ht.cond (decide ((i : Int) < M)) (by kernel_rfl) (by kernel_rfl) (fun hc => ?_) (fun hc => ?_)
  case refine_2 =>
    have hc := of_decide_eq_false hc
    have hi2 : M.toNat - i = 0 := by omega
    rw [hi2] at hR
    have hR : mt = R := hR
    subst hR
    refine Ht.exit (id := 18) (by kernel_rfl) ?_
    show Ht False Proofs.Tryd.prog (cR A33f) _ (MQ33 mt)
    exact Ht.forget [6] (Ht.st (σ' := Sm 252 [(6, sN q (w.length + 1))] G) (by kernel_rfl) (end33 hg n q (w.length + 1) _ G hT hm0.1))
  have hc := of_decide_eq_true hc
  have hi : i < M.toNat := by omega
  have hw2 : w64 ((i : Int) + 1) = ((i + 1 : Nat) : Int) := by rw [w64_id ⟨by omega, by omega⟩]; omega
  rw [show M.toNat - i = (M.toNat - (i + 1)) + 1 by omega] at hR
  have hR : repM s (w.length + 1) (M.toNat - (i + 1)) (orM mt (thenM pt s (w.length + 1)) (w.length + 1)) (thenM pt s (w.length + 1)) = R := hR
  have hqN : q + (w.length + 1) < G.length := by
    obtain ⟨r0, h0, _⟩ := hm0.row (i := w.length) (by omega)
    have := lt_of_getElem? (hT.2 w.length r0 h0).2
    omega
  refine Ht.skip (by kernel_rfl) ?_
  refine seqH.n ?_
  refine Ht.seq (by kernel_rfl) ?_
  refine Ht.block 19 (by kernel_rfl) ?_
  refine Ht.seq (by kernel_rfl) ?_
  refine Ht.regionCall' (hxR hg n) 4 (t := 212) (args := [.tmp 208, .tmp 211]) (Qc := fun d h' => ∃ q', d = sN q' (w.length + 1) ∧ G.length ≤ q' ∧ Tab h' q' (thenM pt s (w.length + 1)) ∧ Pre G h') (by kernel_rfl) is55 ?_
  refine OpsU.seg' 2 2 (by kernel_rfl) ?_
  refine OpsU.one' 3 (fun h0 e0 => ix_a (T := T) (g := .nil) h0 88 69 1 t mV xs 0 s hix (by kernel_rfl) (by kernel_rfl) (fun _ => rfl)) (by kernel_rfl) (by kernel_rfl) ?_
  refine OpsU.seg' 1 4 (by kernel_rfl) ?_
  refine OpsU.done ⟨CallT.of_eq (by kernel_rfl) (by kernel_rfl) (call55 n G qp (w.length + 1) (by omega) _ s hp0 hq hP), fun d h' hd => ?_⟩
  obtain ⟨q', rfl, h1, h2, h3⟩ := hd
  refine Ops.seg' 1 6 (by kernel_rfl) ?_
  refine Ops.done (by kernel_rfl) ?_
  refine seqH.n ?_
  have hT' := hT.pre h3
  refine Ht.forget [6, 8, 16, 205, 206] (Ht.st (σ' := S5l q q' (w.length + 1) t xs M (i : Int) h') (by kernel_rfl) ?_)
  refine Ht.seq (by kernel_rfl) ?_
  refine Ht.region (hxR hg n) (by kernel_rfl) ?_
  refine Ops.seg' 3 3 (by kernel_rfl) ?_
  refine Ops.done (by kernel_rfl) ?_
  refine seqH.n ?_
  refine Ht.block 20 (by kernel_rfl) ?_
  refine Ht.forget [6, 8, 16, 205, 206, 214, 215] (Ht.st (σ' := S5o q q' (w.length + 1) t xs M (i : Int) 0 h') (by kernel_rfl) ?_)
  refine outer5 hg n q q' (w.length + 1) t xs M (i : Int) (by omega) mt (thenM pt s (w.length + 1)) hm0 (thenM_sq _ _ _) (by omega) (fun G' σ g1 g2 g3 => ?_) h' hT' h2
  refine blkH.x ?_
  refine blkH.n ?_
  refine seqH.n ?_
  refine Ht.forget [6, 8, 16, 205, 206] (Ht.st g3 ?_)
  refine Ht.region (hxR hg n) (by kernel_rfl) ?_
  refine Ops.seg' 2 2 (by kernel_rfl) ?_
  refine Ops.done (by kernel_rfl) ?_
  refine ⟨M.toNat - (i + 1), by omega, i + 1, q', _, _, G', rfl, hi, mkM_sq _ _, thenM_sq _ _ _, g1, g2, hR, ?_⟩
  have e : ∀ y : Int, y = ((i + 1 : Nat) : Int) → S5l q q' (w.length + 1) t xs M y G' = S5l q q' (w.length + 1) t xs M ((i + 1 : Nat) : Int) G' := fun y hy => by rw [hy]
  refine Eq.trans ?_ (e _ hw2)
  kernel_rfl
noncomputable abbrev LD : Code := cL (cR KD)
noncomputable abbrev YD : Code := cL (cL (cR (cR (cL LD))))
noncomputable abbrev JD : Code := cL (cR (cR YD))
noncomputable abbrev ZD : Code := cL (cL (cR (cR (cL JD))))
noncomputable abbrev QD : Code := cL (cR (cL (cR (cR ZD))))
noncomputable abbrev TD : Code := cR (cR (cR ZD))
abbrev SDo (N t : Nat) (xs : List Tb) (a : Int) (G : List AObj) : St := Sm 252 [(2, .ptr 0 0), (6, sN 1 N), (8, appF .nil t (xs.map mV)), (59, dI (N : Int)), (60, dI a)] G
abbrev SDi (N t : Nat) (xs : List Tb) (a b : Int) (G : List AObj) : St := Sm 252 [(2, .ptr 0 0), (6, sN 1 N), (8, appF .nil t (xs.map mV)), (19, dI a), (59, dI (N : Int)), (60, dI a), (67, dI (N : Int)), (68, dI b)] G
abbrev SDx (N t : Nat) (xs : List Tb) (a b : Int) (x y : Bool) (G : List AObj) : St := Sm 252 [(2, .ptr 0 0), (6, sN 1 N), (8, appF .nil t (xs.map mV)), (19, dI a), (20, dI b), (21, dB x), (22, dB y), (59, dI (N : Int)), (60, dI a), (67, dI (N : Int)), (68, dI b)] G
abbrev SDr (N t : Nat) (xs rs : List Tb) (a b : Int) (x y : Bool) (i : Int) (G : List AObj) : St := Sm 252 [(2, .ptr 0 0), (6, sN 1 N), (8, appF .nil t (xs.map mV)), (19, dI a), (20, dI b), (21, dB x), (22, dB y), (59, dI (N : Int)), (60, dI a), (67, dI (N : Int)), (68, dI b), (81, .v (.sl .plain (rs.map mV))), (82, dI (rs.length : Int)), (83, dI i)] G
abbrev SDs (N t : Nat) (xs rs : List Tb) (s : Tb) (a b : Int) (x y : Bool) (i : Int) (G : List AObj) : St := Sm 252 [(2, .ptr 0 0), (6, sN 1 N), (8, appF .nil t (xs.map mV)), (19, dI a), (20, dI b), (21, dB x), (22, dB y), (24, .v (mV s)), (59, dI (N : Int)), (60, dI a), (67, dI (N : Int)), (68, dI b), (81, .v (.sl .plain (rs.map mV))), (82, dI (rs.length : Int)), (83, dI i)] G
theorem any_snoc {l : List Tb} {i : Nat} {s : Tb} (f : Tb → Bool) (hs : l[i]? = some s) : (l.take (i + 1)).any f = ((l.take i).any f || f s) := by
  rw [List.take_add_one, hs, List.any_append]
  simp
theorem orD {r : Nat} (hg : Good False Proofs.Tryd.prog (ER r)) (n : Nat) (N t : Nat) (xs rs : List Tb) (a b : Nat) (x : Bool) (ha : a < N) (hb : b < N) (hrs : ∀ s ∈ rs, Sq N s) (hrl : rs.length ≤ 200) (G : List AObj) {Q : Post}
    (hQ : ∀ σ, Abs.forget [2, 6, 8, 19, 20, 21, 22, 59, 60, 67, 68] σ = SDx N t xs (a : Int) (b : Int) x (rs.any fun s => cell s a b) G → Q (.exit 9) σ) :
    Ht False Proofs.Tryd.prog QD (SDr N t xs rs (a : Int) (b : Int) x false 0 G) Q := by
  refine Ht.loop (fun k σ => ∃ (i : Nat), k = rs.length - i ∧ i ≤ rs.length ∧ Abs.forget [2, 6, 8, 19, 20, 21, 22, 59, 60, 67, 68, 81, 82, 83] σ = SDr N t xs rs (a : Int) (b : Int) x ((rs.take i).any fun s => cell s a b) (i : Int) G) rs.length (by kernel_rfl) ⟨0, rfl, Nat.zero_le _, by kernel_rfl⟩ ?_
  rintro k σ ⟨i, rfl, hi, hσ⟩
  refine Ht.forget [2, 6, 8, 19, 20, 21, 22, 59, 60, 67, 68, 81, 82, 83] (Ht.st hσ ?_)
  clear hσ
  refine Ht.seq (by kernel_rfl) ?_
  refine Ht.region (hxR hg n) (by kernel_rfl) ?_
  refine Ops.seg' 1 1 (by kernel_rfl) ?_
  refine Ops.done (by kernel_rfl) ?_
  refine seqH.n ?_
  refine Ht.seq (by kernel_rfl) ?_
  refine Ht.cond (decide ((i : Int) < (rs.length : Int))) (by kernel_rfl) (by kernel_rfl) (fun hc => ?_) (fun hc => ?_)
  case refine_2 =>
    have hc := of_decide_eq_false hc
    have hi2 : i = rs.length := by omega
    refine Ht.exit (id := 9) (by kernel_rfl) ?_
    show Q (.exit 9) _
    have htk : rs.take i = rs := by rw [hi2, List.take_length]
    rw [htk]
    exact hQ _ (by kernel_rfl)
  have hc := of_decide_eq_true hc
  have hi : i < rs.length := by omega
  have hw2 : w64 ((i : Int) + 1) = ((i + 1 : Nat) : Int) := by rw [w64_id ⟨by omega, by omega⟩]; omega
  obtain ⟨s, hs⟩ : ∃ s, rs[i]? = some s := ⟨_, List.getElem?_eq_getElem hi⟩
  have hix : idx rs (i : Int) = some s := by simp [idx, hs]
  have hsq := hrs s (List.mem_of_getElem? hs)
  obtain ⟨ra, hra, hral, hrac⟩ := hsq.row ha
  have hany := any_snoc (fun s => cell s a b) hs
  refine Ht.skip (by kernel_rfl) ?_
  refine seqH.n ?_
  refine Ht.seq (by kernel_rfl) ?_
  refine Ht.block 10 (by kernel_rfl) ?_
  refine Ht.seq (by kernel_rfl) ?_
  refine Ht.region (hxR hg n) (by kernel_rfl) ?_
  refine Ops.one' 1 (fun h0 e0 => ix_r (T := T) h0 88 69 1 .plain mV rs (i : Int) s hix (by kernel_rfl) (by kernel_rfl) (fun _ => rfl)) (by kernel_rfl) (by kernel_rfl) ?_
  refine Ops.seg' 2 3 (by kernel_rfl) ?_
  refine Ops.done (by kernel_rfl) ?_
  refine seqH.n ?_
  generalize hy : ((rs.take i).any fun s => cell s a b) = y at hany
  refine Ht.forget [2, 6, 8, 19, 20, 21, 22, 24, 59, 60, 67, 68, 81, 82, 83] (Ht.st (σ' := SDs N t xs rs s (a : Int) (b : Int) x y (i : Int) G) (by kernel_rfl) ?_)
  have fin : ∀ v, v = (y || cell s a b) → lpH (fun k σ => ∃ (i : Nat), k = rs.length - i ∧ i ≤ rs.length ∧ Abs.forget [2, 6, 8, 19, 20, 21, 22, 59, 60, 67, 68, 81, 82, 83] σ = SDr N t xs rs (a : Int) (b : Int) x ((rs.take i).any fun s => cell s a b) (i : Int) G) (rs.length - i) Q .normal (SDr N t xs rs (a : Int) (b : Int) x v (w64 ((i : Int) + 1)) G) := by
    intro v hv
    subst hv
    refine ⟨rs.length - (i + 1), by omega, i + 1, rfl, hi, ?_⟩
    rw [hany, hw2]
    kernel_rfl
  refine Ht.region (hxR hg n) (by kernel_rfl) ?_
  cases y with
  | true =>
    refine Ops.seg' 11 11 (by kernel_rfl) ?_
    refine Ops.done (by kernel_rfl) ?_
    refine blkH.n ?_
    refine seqH.n ?_
    refine Ht.forget [2, 6, 8, 19, 20, 21, 22, 59, 60, 67, 68, 81, 82, 83] (Ht.st (σ' := SDr N t xs rs (a : Int) (b : Int) x true (i : Int) G) (by kernel_rfl) ?_)
    refine Ht.region (hxR hg n) (by kernel_rfl) ?_
    refine Ops.seg' 2 2 (by kernel_rfl) ?_
    refine Ops.done (by kernel_rfl) ?_
    obtain ⟨f, h1, j', h2, h3, h4⟩ := fin true rfl
    exact ⟨f, h1, j', h2, h3, Eq.trans (by kernel_rfl) h4⟩
  | false =>
    refine Ops.seg' 4 4 (by kernel_rfl) ?_
    refine Ops.one' 5 (fun h0 e0 => ixV69 (h := h0) (k := a) hra rfl) (by kernel_rfl) (by kernel_rfl) ?_
    refine Ops.seg' 2 7 (by kernel_rfl) ?_
    refine Ops.one' 8 (fun h0 e0 => ixV67 (h := h0) (j := b) (hrac b hb) rfl) (by kernel_rfl) (by kernel_rfl) ?_
    refine Ops.seg' 3 11 (by kernel_rfl) ?_
    refine Ops.done (by kernel_rfl) ?_
    refine blkH.n ?_
    refine seqH.n ?_
    refine Ht.forget [2, 6, 8, 19, 20, 21, 22, 59, 60, 67, 68, 81, 82, 83] (Ht.st (σ' := SDr N t xs rs (a : Int) (b : Int) x (cell s a b) (i : Int) G) (by kernel_rfl) ?_)
    refine Ht.region (hxR hg n) (by kernel_rfl) ?_
    refine Ops.seg' 2 2 (by kernel_rfl) ?_
    refine Ops.done (by kernel_rfl) ?_
    obtain ⟨f, h1, j', h2, h3, h4⟩ := fin (cell s a b) rfl
    exact ⟨f, h1, j', h2, h3, Eq.trans (by kernel_rfl) h4⟩
end Go.Abs
