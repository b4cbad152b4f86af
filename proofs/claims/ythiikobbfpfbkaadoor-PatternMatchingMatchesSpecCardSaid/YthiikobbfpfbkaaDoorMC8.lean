import Derived.Test.YthiikobbfpfbkaaDoorMC4
namespace Go.Abs
open Go.Sort Go.Proofs
set_option linter.unusedVariables false
set_option maxRecDepth 100000
set_option maxHeartbeats 2000000
noncomputable abbrev K2 : Code := cR (cR K33)
theorem skip1 {r : Nat} (hg : Good False Proofs.Tryd.prog (ER r)) (n : Nat) (p : S24) (w : List Int) (t : Nat) (xs : List Tb) (G : List AObj) (hk : p.fKind ≠ 1) {Q : Post} (h : Ht False Proofs.Tryd.prog K2 (S33k p w t xs G) Q) :
    Ht False Proofs.Tryd.prog K33 (S33k p w t xs G) Q := by
  refine Ht.seq (by kernel_rfl) ?_
  refine Ht.region (hxR hg n) (by kernel_rfl) ?_
  refine Ops.seg' 2 2 (by kernel_rfl) ?_
  refine Ops.done (by kernel_rfl) ?_
  refine seqH.n ?_
  refine Ht.cond (p.fKind == 1) (by kernel_rfl) (by kernel_rfl) (fun hc => absurd (eq_of_beq hc) hk) (fun hc => ?_)
  exact Ht.forget [1, 2, 4, 5, 6, 8, 57] (Ht.st (σ' := S33k p w t xs G) (by kernel_rfl) h)
def setG (ls w : List Int) (i j : Nat) : Bool := decide (j = i + 1) && (match w[i]? with
  | some x => ls.contains x
  | none => false)
theorem setM_mk (ls w : List Int) : setM ls w = mkM (w.length + 1) (setG ls w) := rfl
abbrev S33s (w : List Int) (i : Int) (G : List AObj) : St := Sm 252 [(2, .ptr 0 0), (6, sN 1 (w.length + 1)), (145, .v (vP eI w)), (146, dI (w.length : Int)), (147, dI i)] G
theorem kind2 {r : Nat} (hg : Good False Proofs.Tryd.prog (ER r)) (n : Nat) (p : S24) (w : List Int) (t : Nat) (xs : List Tb) (G0 : List AObj) (hw0 : w.length ≤ 10000) (hk : p.fKind = 2) (hL : OkL p.fLabels)
    (hb0 : G0[0]? = some (boxP p)) (ht0 : Tab G0 1 (zM (w.length + 1))) :
    Ht False Proofs.Tryd.prog K2 (S33k p w t xs G0) (blkH 4 (seqH False Proofs.Tryd.prog (cR A33f) (MQ33 (setM p.fLabels w)))) := by
  refine Ht.seq (by kernel_rfl) ?_
  refine Ht.region (hxR hg (n + 1)) (by kernel_rfl) ?_
  refine Ops.seg' 2 2 (by kernel_rfl) ?_
  refine Ops.done (by kernel_rfl) ?_
  refine seqH.n ?_
  refine Ht.cond (p.fKind == 2) (by kernel_rfl) (by kernel_rfl) (fun hc => ?_) (fun hc => by rw [hk] at hc; exact nomatch hc)
  refine Ht.seq (by kernel_rfl) ?_
  refine Ht.region (hxR hg (n + 1)) (by kernel_rfl) ?_
  refine Ops.seg' 1 1 (by kernel_rfl) ?_
  refine Ops.one' 2 (fun h0 e0 => len_r (T := T) h0 22 3 .plain eI w (by kernel_rfl)) (by kernel_rfl) (by kernel_rfl) ?_
  refine Ops.seg' 1 3 (by kernel_rfl) ?_
  refine Ops.done (by kernel_rfl) ?_
  refine seqH.n ?_
  refine Ht.block 12 (by kernel_rfl) ?_
  refine Ht.loop (fun k σ => ∃ (i : Nat) (G : List AObj), k = w.length - i ∧ i ≤ w.length ∧ G[0]? = some (boxP p) ∧ Tab G 1 (mkM (w.length + 1) fun a b => decide (a < i) && setG p.fLabels w a b) ∧ Abs.forget [2, 6, 145, 146, 147] σ = S33s w (i : Int) G) w.length (by kernel_rfl) ⟨0, G0, rfl, Nat.zero_le _, hb0, ?_, by kernel_rfl⟩ ?_
  · have e : (mkM (w.length + 1) fun a b => decide (a < 0) && setG p.fLabels w a b) = zM (w.length + 1) := mkM_congr fun i j _ _ => by simp
    rw [e]; exact ht0
  clear hb0 ht0
  rintro k σ ⟨i, G, rfl, hi, hb, hT, hσ⟩
  refine Ht.forget [2, 6, 145, 146, 147] (Ht.st hσ ?_)
  clear hσ
  refine Ht.seq (by kernel_rfl) ?_
  refine Ht.region (hxR hg (n + 1)) (by kernel_rfl) ?_
  refine Ops.seg' 1 1 (by kernel_rfl) ?_
  refine Ops.done (by kernel_rfl) ?_
  refine seqH.n ?_
  refine Ht.seq (by kernel_rfl) ?_
  refine Ht.cond (decide ((i : Int) < (w.length : Int))) (by kernel_rfl) (by kernel_rfl) (fun hc => ?_) (fun hc => ?_)
  case refine_2 =>
    have hc := of_decide_eq_false hc
    have hi2 : i = w.length := by omega
    refine Ht.exit (id := 12) (by kernel_rfl) ?_
    show Ht False Proofs.Tryd.prog (cR A33f) _ (MQ33 (setM p.fLabels w))
    refine Ht.forget [6] (Ht.st (σ' := Sm 252 [(6, sN 1 (w.length + 1))] G) (by kernel_rfl) (end33 hg n 1 (w.length + 1) _ G ?_ (mkM_sq _ _).1))
    have e : (mkM (w.length + 1) fun a b => decide (a < i) && setG p.fLabels w a b) = setM p.fLabels w := mkM_congr fun a b ha hb2 => by
      rw [hi2]
      by_cases h : a < w.length
      · simp [h, setG]
      · have h2 : w[a]? = none := List.getElem?_eq_none (by omega)
        simp [setG, h, h2]
    rw [← e]; exact hT
  have hc := of_decide_eq_true hc
  have hi : i < w.length := by omega
  have hw2 : w64 ((i : Int) + 1) = ((i + 1 : Nat) : Int) := by rw [w64_id ⟨by omega, by omega⟩]; omega
  obtain ⟨x, hx⟩ : ∃ x, w[i]? = some x := ⟨_, List.getElem?_eq_getElem hi⟩
  have hix : idx w (i : Int) = some x := by simp [idx, hx]
  have hlen : (mkM (w.length + 1) fun a b => decide (a < i) && setG p.fLabels w a b).length = w.length + 1 := (mkM_sq _ _).1
  have ho : G[1]? = some (.cells ((List.range (w.length + 1)).map fun t => sN (1 + 1 + t) (w.length + 1))) := by
    have := hT.1
    rw [hlen] at this
    exact this
  have hrow : G[1 + 1 + i]? = some (bO ((List.range (w.length + 1)).map fun j => decide (i < i) && setG p.fLabels w i j)) := (hT.2 i _ (mkM_row _ (by omega))).2
  refine Ht.skip (by kernel_rfl) ?_
  refine seqH.n ?_
  refine Ht.seq (by kernel_rfl) ?_
  refine Ht.block 13 (by kernel_rfl) ?_
  refine Ht.seq (by kernel_rfl) ?_
  refine Ht.region (hxR hg (n + 1)) (by kernel_rfl) ?_
  refine Ops.seg' 1 1 (by kernel_rfl) ?_
  refine Ops.one' 2 (fun h0 e0 => ix_r (T := T) h0 22 3 1 .plain eI w (i : Int) x hix (by kernel_rfl) (by kernel_rfl) (fun _ => rfl)) (by kernel_rfl) (by kernel_rfl) ?_
  refine Ops.seg' 3 5 (by kernel_rfl) ?_
  refine Ops.done (by kernel_rfl) ?_
  refine seqH.n ?_
  refine Ht.forget [2, 6, 11, 12, 145, 146, 147] (Ht.st (σ' := Sm 252 [(2, .ptr 0 0), (6, sN 1 (w.length + 1)), (11, dI (i : Int)), (12, dI x), (145, .v (vP eI w)), (146, dI (w.length : Int)), (147, dI (i : Int))] G) (by kernel_rfl) ?_)
  refine Ht.region (hxR hg (n + 1)) (by kernel_rfl) ?_
  refine Ops.seg' 2 2 (by kernel_rfl) ?_
  refine Ops.one' 3 (fun h0 e0 => ixC (h := h0) (q := 1) (N := w.length + 1) (i := i) (hq_of (g := G) (e0.trans (by kernel_rfl)) ho) rfl (by omega)) (by kernel_rfl) (by kernel_rfl) ?_
  refine Ops.one' 4 (fun h0 e0 => ldC (h := h0) (q := 1) (i := i) (d := sN (1 + 1 + i) (w.length + 1)) (hq_of (g := G) (e0.trans (by kernel_rfl)) ho) (by rw [List.getElem?_map, List.getElem?_range (by omega)]; rfl)) (by kernel_rfl) (by kernel_rfl) ?_
  refine Ops.seg' 3 7 (by kernel_rfl) ?_
  refine Ops.one' 8 (fun h0 e0 => ldc (i := ti22) (h := h0) (r := 0) (off := 1) (cs := cV p) (d := .v (vP eI p.fLabels)) (hq_of (g := G) (e0.trans (by kernel_rfl)) hb) (by rfl)) (by kernel_rfl) (by kernel_rfl) ?_
  refine Ops.seg' 1 9 (by kernel_rfl) ?_
  refine Ops.one' 10 (fun h0 e0 => call_ok (E' := (XR r (n + 1)).E) (h := h0) (by kernel_rfl) (Args.v (vP eI p.fLabels) (vP eI p.fLabels) (by kernel_rfl) (Args.v (vI x) (eI x) (by kernel_rfl) Args.nil)) (fn54 r n hL x)) (by kernel_rfl) (by kernel_rfl) ?_
  refine Ops.seg' 3 13 (by kernel_rfl) ?_
  refine Ops.one' 14 (fun h0 e0 => ixR (h := h0) (r := 1 + 1 + i) (N := w.length + 1) (i := i + 1) (hq_of (g := G) (e0.trans (by kernel_rfl)) hrow) hw2 (by omega)) (by kernel_rfl) (by kernel_rfl) ?_
  refine Ops.one' 15 (fun h0 e0 => stR (h := h0) (r := 1 + 1 + i) (i := i + 1) (x := p.fLabels.contains x) (hq_of (g := G) (e0.trans (by kernel_rfl)) hrow) (by simp; omega)) (by kernel_rfl) (by kernel_rfl) ?_
  refine Ops.done (by kernel_rfl) ?_
  refine blkH.n ?_
  refine seqH.n ?_
  have hT2 := hT.upd (i := i) (r := ((List.range (w.length + 1)).map fun j => decide (i < i) && setG p.fLabels w i j).set (i + 1) (p.fLabels.contains x)) (by rw [hlen]; omega) (by rw [hlen]; simp)
  rw [mkM_set (i := i) (j := i + 1) (fun a b => decide (a < i) && setG p.fLabels w a b) (by omega) (by omega)] at hT2
  refine Ht.forget [2, 6, 145, 146, 147] (Ht.st (σ' := S33s w (i : Int) (G.set (1 + 1 + i) (bO (((List.range (w.length + 1)).map fun j => decide (i < i) && setG p.fLabels w i j).set (i + 1) (p.fLabels.contains x))))) (by kernel_rfl) ?_)
  generalize hG2 : G.set (1 + 1 + i) (bO (((List.range (w.length + 1)).map fun j => decide (i < i) && setG p.fLabels w i j).set (i + 1) (p.fLabels.contains x))) = G2 at hT2 ⊢
  refine Ht.region (hxR hg (n + 1)) (by kernel_rfl) ?_
  refine Ops.seg' 2 2 (by kernel_rfl) ?_
  refine Ops.done (by kernel_rfl) ?_
  refine ⟨w.length - (i + 1), by omega, i + 1, G2, rfl, hi, ?_, ?_, ?_⟩
  · rw [← hG2, List.getElem?_set_ne (by omega)]; exact hb
  · have e : (mkM (w.length + 1) fun a b => if a = i ∧ b = i + 1 then p.fLabels.contains x else decide (a < i) && setG p.fLabels w a b) = mkM (w.length + 1) fun a b => decide (a < i + 1) && setG p.fLabels w a b := mkM_congr fun a b ha hb2 => by
      by_cases h : a = i
      · subst h
        by_cases h2 : b = a + 1
        · subst h2; simp [setG, hx]
        · simp [setG, h2]
      · have e2 : decide (a < i) = decide (a < i + 1) := by
          by_cases h3 : a < i
          · simp [h3, Nat.lt_succ_of_lt h3]
          · simp [h3]; omega
        rw [if_neg (fun h2 => h h2.1), e2]
    rw [← e]; exact hT2
  · have e : ∀ y : Int, y = ((i + 1 : Nat) : Int) → S33s w y G2 = S33s w ((i + 1 : Nat) : Int) G2 := fun y hy => by rw [hy]
    refine Eq.trans ?_ (e _ hw2)
    kernel_rfl
noncomputable abbrev K3 : Code := cR (cR K2)
theorem skip2 {r : Nat} (hg : Good False Proofs.Tryd.prog (ER r)) (n : Nat) (p : S24) (w : List Int) (t : Nat) (xs : List Tb) (G : List AObj) (hk : p.fKind ≠ 2) {Q : Post} (h : Ht False Proofs.Tryd.prog K3 (S33k p w t xs G) Q) :
    Ht False Proofs.Tryd.prog K2 (S33k p w t xs G) Q := by
  refine Ht.seq (by kernel_rfl) ?_
  refine Ht.region (hxR hg n) (by kernel_rfl) ?_
  refine Ops.seg' 2 2 (by kernel_rfl) ?_
  refine Ops.done (by kernel_rfl) ?_
  refine seqH.n ?_
  refine Ht.cond (p.fKind == 2) (by kernel_rfl) (by kernel_rfl) (fun hc => absurd (eq_of_beq hc) hk) (fun hc => ?_)
  exact Ht.forget [1, 2, 4, 5, 6, 8, 57] (Ht.st (σ' := S33k p w t xs G) (by kernel_rfl) h)
abbrev S33t (t q N : Nat) (xs : List Tb) (i : Int) (G : List AObj) : St := Sm 252 [(6, sN q N), (171, appF .nil t (xs.map mV)), (172, dI (xs.length : Int)), (173, dI i)] G
def foldM (N : Nat) (xs : List Tb) : Tb := xs.foldl (fun m s => thenM m s N) (idM N)
theorem foldM_sq (N : Nat) (xs : List Tb) : Sq N (foldM N xs) := fold_sq N xs _ (idM_sq N)
theorem foldM_snoc (N : Nat) (xs : List Tb) (s : Tb) : foldM N (xs ++ [s]) = thenM (foldM N xs) s N := by simp [foldM]
theorem kind3 {r : Nat} (hg : Good False Proofs.Tryd.prog (ER r)) (n : Nat) (p : S24) (w : List Int) (t : Nat) (xs : List Tb) (G0 : List AObj) (hw0 : w.length ≤ 10000) (hk : p.fKind = 3) (hxs : ∀ s ∈ xs, Sq (w.length + 1) s) (hxl : xs.length ≤ 200) :
    Ht False Proofs.Tryd.prog K3 (S33k p w t xs G0) (blkH 4 (seqH False Proofs.Tryd.prog (cR A33f) (MQ33 (foldM (w.length + 1) xs)))) := by
  refine Ht.seq (by kernel_rfl) ?_
  refine Ht.region (hxR hg n) (by kernel_rfl) ?_
  refine Ops.seg' 2 2 (by kernel_rfl) ?_
  refine Ops.done (by kernel_rfl) ?_
  refine seqH.n ?_
  refine Ht.cond (p.fKind == 3) (by kernel_rfl) (by kernel_rfl) (fun hc => ?_) (fun hc => by rw [hk] at hc; exact nomatch hc)
  refine Ht.seq (by kernel_rfl) ?_
  refine Ht.regionCall' (hxR hg n) 1 (t := 170) (args := [.tmp 169]) (Qc := fun d h' => ∃ q, d = sN q (w.length + 1) ∧ G0.length ≤ q ∧ Tab h' q (idM (w.length + 1)) ∧ Pre G0 h') (by kernel_rfl) is53 ?_
  refine OpsU.seg' 1 1 (by kernel_rfl) ?_
  refine OpsU.done ⟨CallT.of_eq (by kernel_rfl) (by kernel_rfl) (call53 n w.length hw0 G0), fun d h' hd => ?_⟩
  obtain ⟨q, rfl, h1, h2, h3⟩ := hd
  refine Ops.seg' 1 3 (by kernel_rfl) ?_
  refine Ops.done (by kernel_rfl) ?_
  refine seqH.n ?_
  refine Ht.forget [6, 8] (Ht.st (σ' := Sm 252 [(6, sN q (w.length + 1)), (8, appF .nil t (xs.map mV))] h') (by kernel_rfl) ?_)
  refine Ht.seq (by kernel_rfl) ?_
  refine Ht.region (hxR hg n) (by kernel_rfl) ?_
  refine Ops.seg' 1 1 (by kernel_rfl) ?_
  refine Ops.one' 2 (fun h0 e0 => len_a (T := T) (g := .nil) h0 88 69 t mV xs (by kernel_rfl)) (by kernel_rfl) (by kernel_rfl) ?_
  refine Ops.seg' 1 3 (by kernel_rfl) ?_
  refine Ops.done (by kernel_rfl) ?_
  refine seqH.n ?_
  refine Ht.block 14 (by kernel_rfl) ?_
  refine Ht.loop (fun k σ => ∃ (i q : Nat) (G : List AObj), k = xs.length - i ∧ i ≤ xs.length ∧ Tab G q (foldM (w.length + 1) (xs.take i)) ∧ Abs.forget [6, 171, 172, 173] σ = S33t t q (w.length + 1) xs (i : Int) G) xs.length (by kernel_rfl) ⟨0, q, h', rfl, Nat.zero_le _, h2, by kernel_rfl⟩ ?_
  clear h1 h2 h3 h' q
  rintro k σ ⟨i, q, G, rfl, hi, hT, hσ⟩
  refine Ht.forget [6, 171, 172, 173] (Ht.st hσ ?_)
  clear hσ
  refine Ht.seq (by kernel_rfl) ?_
  refine Ht.region (hxR hg n) (by kernel_rfl) ?_
  refine Ops.seg' 1 1 (by kernel_rfl) ?_
  refine Ops.done (by kernel_rfl) ?_
  refine seqH.n ?_
  refine Ht.seq (by kernel_rfl) ?_
  refine Ht.cond (decide ((i : Int) < (xs.length : Int))) (by kernel_rfl) (by kernel_rfl) (fun hc => ?_) (fun hc => ?_)
  case refine_2 =>
    have hc := of_decide_eq_false hc
    have hi2 : i = xs.length := by omega
    refine Ht.exit (id := 14) (by kernel_rfl) ?_
    show Ht False Proofs.Tryd.prog (cR A33f) _ (MQ33 (foldM (w.length + 1) xs))
    refine Ht.forget [6] (Ht.st (σ' := Sm 252 [(6, sN q (w.length + 1))] G) (by kernel_rfl) (end33 hg n q (w.length + 1) _ G ?_ (foldM_sq _ _).1))
    rw [hi2, List.take_length] at hT
    exact hT
  have hc := of_decide_eq_true hc
  have hi : i < xs.length := by omega
  have hw2 : w64 ((i : Int) + 1) = ((i + 1 : Nat) : Int) := by rw [w64_id ⟨by omega, by omega⟩]; omega
  obtain ⟨s, hs⟩ : ∃ s, xs[i]? = some s := ⟨_, List.getElem?_eq_getElem hi⟩
  have hix : idx xs (i : Int) = some s := by simp [idx, hs]
  have htk : foldM (w.length + 1) (xs.take (i + 1)) = thenM (foldM (w.length + 1) (xs.take i)) s (w.length + 1) := by
    rw [List.take_add_one, hs]; exact foldM_snoc _ _ _
  refine Ht.skip (by kernel_rfl) ?_
  refine seqH.n ?_
  refine Ht.seq (by kernel_rfl) ?_
  refine Ht.block 15 (by kernel_rfl) ?_
  refine Ht.seq (by kernel_rfl) ?_
  refine Ht.region (hxR hg n) (by kernel_rfl) ?_
  refine Ops.one' 1 (fun h0 e0 => ix_a (T := T) (g := .nil) h0 88 69 1 t mV xs (i : Int) s hix (by kernel_rfl) (by kernel_rfl) (fun _ => rfl)) (by kernel_rfl) (by kernel_rfl) ?_
  refine Ops.seg' 2 3 (by kernel_rfl) ?_
  refine Ops.done (by kernel_rfl) ?_
  refine seqH.n ?_
  refine Ht.forget [6, 14, 171, 172, 173] (Ht.st (σ' := Sm 252 [(6, sN q (w.length + 1)), (14, .v (mV s)), (171, appF .nil t (xs.map mV)), (172, dI (xs.length : Int)), (173, dI (i : Int))] G) (by kernel_rfl) ?_)
  refine Ht.regionCall' (hxR hg n) 2 (t := 179) (args := [.tmp 177, .tmp 178]) (Qc := fun d h' => ∃ q', d = sN q' (w.length + 1) ∧ G.length ≤ q' ∧ Tab h' q' (thenM (foldM (w.length + 1) (xs.take i)) s (w.length + 1)) ∧ Pre G h') (by kernel_rfl) is55 ?_
  refine OpsU.seg' 2 2 (by kernel_rfl) ?_
  refine OpsU.done ⟨CallT.of_eq (by kernel_rfl) (by kernel_rfl) (call55 n G q (w.length + 1) (by omega) _ s (foldM_sq _ _) (hxs s (List.mem_of_getElem? hs)) hT), fun d h' hd => ?_⟩
  obtain ⟨q', rfl, h1, h2, h3⟩ := hd
  refine Ops.seg' 1 4 (by kernel_rfl) ?_
  refine Ops.done (by kernel_rfl) ?_
  refine blkH.n ?_
  refine seqH.n ?_
  refine Ht.forget [6, 171, 172, 173] (Ht.st (σ' := S33t t q' (w.length + 1) xs (i : Int) h') (by kernel_rfl) ?_)
  refine Ht.region (hxR hg n) (by kernel_rfl) ?_
  refine Ops.seg' 2 2 (by kernel_rfl) ?_
  refine Ops.done (by kernel_rfl) ?_
  refine ⟨xs.length - (i + 1), by omega, i + 1, q', h', rfl, hi, by rw [htk]; exact h2, ?_⟩
  have e : ∀ y : Int, y = ((i + 1 : Nat) : Int) → S33t t q' (w.length + 1) xs y h' = S33t t q' (w.length + 1) xs ((i + 1 : Nat) : Int) h' := fun y hy => by rw [hy]
  refine Eq.trans ?_ (e _ hw2)
  kernel_rfl
noncomputable abbrev K5 : Code := cR (cR K3)
theorem skip3 {r : Nat} (hg : Good False Proofs.Tryd.prog (ER r)) (n : Nat) (p : S24) (w : List Int) (t : Nat) (xs : List Tb) (G : List AObj) (hk : p.fKind ≠ 3) {Q : Post} (h : Ht False Proofs.Tryd.prog K5 (S33k p w t xs G) Q) :
    Ht False Proofs.Tryd.prog K3 (S33k p w t xs G) Q := by
  refine Ht.seq (by kernel_rfl) ?_
  refine Ht.region (hxR hg n) (by kernel_rfl) ?_
  refine Ops.seg' 2 2 (by kernel_rfl) ?_
  refine Ops.done (by kernel_rfl) ?_
  refine seqH.n ?_
  refine Ht.cond (p.fKind == 3) (by kernel_rfl) (by kernel_rfl) (fun hc => absurd (eq_of_beq hc) hk) (fun hc => ?_)
  exact Ht.forget [1, 2, 4, 5, 6, 8, 57] (Ht.st (σ' := S33k p w t xs G) (by kernel_rfl) h)
noncomputable abbrev KD : Code := cR (cR K5)
theorem skip5 {r : Nat} (hg : Good False Proofs.Tryd.prog (ER r)) (n : Nat) (p : S24) (w : List Int) (t : Nat) (xs : List Tb) (G : List AObj) (hk : p.fKind ≠ 5) {Q : Post} (h : Ht False Proofs.Tryd.prog KD (S33k p w t xs G) Q) :
    Ht False Proofs.Tryd.prog K5 (S33k p w t xs G) Q := by
  refine Ht.seq (by kernel_rfl) ?_
  refine Ht.region (hxR hg n) (by kernel_rfl) ?_
  refine Ops.seg' 2 2 (by kernel_rfl) ?_
  refine Ops.done (by kernel_rfl) ?_
  refine seqH.n ?_
  refine Ht.cond (p.fKind == 5) (by kernel_rfl) (by kernel_rfl) (fun hc => absurd (eq_of_beq hc) hk) (fun hc => ?_)
  exact Ht.forget [1, 2, 4, 5, 6, 8, 57] (Ht.st (σ' := S33k p w t xs G) (by kernel_rfl) h)
theorem powM_succ (s : Tb) (N : Nat) : ∀ (i : Nat) (m : Tb), powM s N (i + 1) m = thenM (powM s N i m) s N
  | 0, m => rfl
  | i + 1, m => by
    show powM s N (i + 1) (thenM m s N) = _
    rw [powM_succ s N i]
    rfl
noncomputable abbrev M5 : Code := cR (cR (cL (cR K5)))
abbrev S5a (w : List Int) (q t : Nat) (xs : List Tb) (G : List AObj) : St := Sm 252 [(2, .ptr 0 0), (5, dI (w.length : Int)), (6, sN q (w.length + 1)), (8, appF .nil t (xs.map mV))] G
abbrev S5b (w : List Int) (q t : Nat) (xs : List Tb) (l i : Int) (G : List AObj) : St := Sm 252 [(2, .ptr 0 0), (5, dI (w.length : Int)), (6, sN q (w.length + 1)), (8, appF .nil t (xs.map mV)), (186, dI l), (187, dI i)] G
theorem kind5a {r : Nat} (hg : Good False Proofs.Tryd.prog (ER r)) (n : Nat) (p : S24) (w : List Int) (t : Nat) (xs : List Tb) (s : Tb) (G0 : List AObj) (hw0 : w.length ≤ 10000) (hk : p.fKind = 5) (hs : xs[0]? = some s) (hq : Sq (w.length + 1) s)
    (hl0 : 0 ≤ p.fLeast) (hl9 : p.fLeast ≤ 9) (hb0 : G0[0]? = some (boxP p)) {Q : Post}
    (hQ : ∀ (q : Nat) (G : List AObj), Pre G0 G → Tab G q (powM s (w.length + 1) p.fLeast.toNat (idM (w.length + 1))) → Ht False Proofs.Tryd.prog M5 (S5a w q t xs G) Q) :
    Ht False Proofs.Tryd.prog K5 (S33k p w t xs G0) Q := by
  have hG0 : 0 < G0.length := lt_of_getElem? hb0
  have hix : idx xs (0 : Int) = some s := by simp [idx, hs]
  refine Ht.seq (by kernel_rfl) ?_
  refine Ht.region (hxR hg n) (by kernel_rfl) ?_
  refine Ops.seg' 2 2 (by kernel_rfl) ?_
  refine Ops.done (by kernel_rfl) ?_
  refine seqH.n ?_
  refine Ht.cond (p.fKind == 5) (by kernel_rfl) (by kernel_rfl) (fun hc => ?_) (fun hc => by rw [hk] at hc; exact nomatch hc)
  refine Ht.seq (by kernel_rfl) ?_
  refine Ht.regionCall' (hxR hg n) 1 (t := 184) (args := [.tmp 183]) (Qc := fun d h' => ∃ q, d = sN q (w.length + 1) ∧ G0.length ≤ q ∧ Tab h' q (idM (w.length + 1)) ∧ Pre G0 h') (by kernel_rfl) is53 ?_
  refine OpsU.seg' 1 1 (by kernel_rfl) ?_
  refine OpsU.done ⟨CallT.of_eq (by kernel_rfl) (by kernel_rfl) (call53 n w.length hw0 G0), fun d h' hd => ?_⟩
  obtain ⟨q, rfl, h1, h2, h3⟩ := hd
  refine Ops.seg' 1 3 (by kernel_rfl) ?_
  refine Ops.done (by kernel_rfl) ?_
  refine seqH.n ?_
  refine Ht.forget [2, 5, 6, 8] (Ht.st (σ' := S5a w q t xs h') (by kernel_rfl) ?_)
  have hb : h'[0]? = some (boxP p) := by rw [h3.2 0 hG0]; exact hb0
  refine Ht.seq (by kernel_rfl) ?_
  refine Ht.seq (by kernel_rfl) ?_
  refine Ht.region (hxR hg n) (by kernel_rfl) ?_
  refine Ops.seg' 1 1 (by kernel_rfl) ?_
  refine Ops.one' 2 (fun h0 e0 => ldc (i := ti3) (h := h0) (r := 0) (off := 3) (cs := cV p) (d := dI p.fLeast) (hq_of (g := h') (e0.trans (by kernel_rfl)) hb) (by rfl)) (by kernel_rfl) (by kernel_rfl) ?_
  refine Ops.seg' 1 3 (by kernel_rfl) ?_
  refine Ops.done (by kernel_rfl) ?_
  refine seqH.n ?_
  refine Ht.block 16 (by kernel_rfl) ?_
  refine Ht.loop (fun k σ => ∃ (i q : Nat) (G : List AObj), k = p.fLeast.toNat - i ∧ i ≤ p.fLeast.toNat ∧ Pre G0 G ∧ Tab G q (powM s (w.length + 1) i (idM (w.length + 1))) ∧ Abs.forget [2, 5, 6, 8, 186, 187] σ = S5b w q t xs p.fLeast (i : Int) G) p.fLeast.toNat (by kernel_rfl) ⟨0, q, h', rfl, Nat.zero_le _, h3, h2, by kernel_rfl⟩ ?_
  clear h1 h2 h3 hb h' q
  rintro k σ ⟨i, q, G, rfl, hi, hG, hT, hσ⟩
  refine Ht.forget [2, 5, 6, 8, 186, 187] (Ht.st hσ ?_)
  clear hσ
  refine Ht.seq (by kernel_rfl) ?_
  refine Ht.region (hxR hg n) (by kernel_rfl) ?_
  refine Ops.seg' 1 1 (by kernel_rfl) ?_
  refine Ops.done (by kernel_rfl) ?_
  refine seqH.n ?_
  refine Ht.seq (by kernel_rfl) ?_
  refine Ht.cond (decide ((i : Int) < p.fLeast)) (by kernel_rfl) (by kernel_rfl) (fun hc => ?_) (fun hc => ?_)
  case refine_2 =>
    have hc := of_decide_eq_false hc
    have hi2 : i = p.fLeast.toNat := by omega
    subst hi2
    refine Ht.exit (id := 16) (by kernel_rfl) ?_
    show Ht False Proofs.Tryd.prog M5 _ Q
    exact Ht.forget [2, 5, 6, 8] (Ht.st (σ' := S5a w q t xs G) (by kernel_rfl) (hQ q G hG hT))
  have hc := of_decide_eq_true hc
  have hi : i < p.fLeast.toNat := by omega
  have hw2 : w64 ((i : Int) + 1) = ((i + 1 : Nat) : Int) := by rw [w64_id ⟨by omega, by omega⟩]; omega
  refine Ht.skip (by kernel_rfl) ?_
  refine seqH.n ?_
  refine Ht.seq (by kernel_rfl) ?_
  refine Ht.block 17 (by kernel_rfl) ?_
  refine Ht.regionCall' (hxR hg n) 4 (t := 193) (args := [.tmp 189, .tmp 192]) (Qc := fun d h' => ∃ q', d = sN q' (w.length + 1) ∧ G.length ≤ q' ∧ Tab h' q' (thenM (powM s (w.length + 1) i (idM (w.length + 1))) s (w.length + 1)) ∧ Pre G h') (by kernel_rfl) is55 ?_
  refine OpsU.seg' 2 2 (by kernel_rfl) ?_
  refine OpsU.one' 3 (fun h0 e0 => ix_a (T := T) (g := .nil) h0 88 69 1 t mV xs 0 s hix (by kernel_rfl) (by kernel_rfl) (fun _ => rfl)) (by kernel_rfl) (by kernel_rfl) ?_
  refine OpsU.seg' 1 4 (by kernel_rfl) ?_
  refine OpsU.done ⟨CallT.of_eq (by kernel_rfl) (by kernel_rfl) (call55 n G q (w.length + 1) (by omega) _ s (powM_sq _ _ _ _ (idM_sq _)) hq hT), fun d h' hd => ?_⟩
  obtain ⟨q', rfl, h1, h2, h3⟩ := hd
  refine Ops.seg' 1 6 (by kernel_rfl) ?_
  refine Ops.done (by kernel_rfl) ?_
  refine blkH.n ?_
  refine seqH.n ?_
  refine Ht.forget [2, 5, 6, 8, 186, 187] (Ht.st (σ' := S5b w q' t xs p.fLeast (i : Int) h') (by kernel_rfl) ?_)
  refine Ht.region (hxR hg n) (by kernel_rfl) ?_
  refine Ops.seg' 2 2 (by kernel_rfl) ?_
  refine Ops.done (by kernel_rfl) ?_
  refine ⟨p.fLeast.toNat - (i + 1), by omega, i + 1, q', h', rfl, hi, hG.trans h3, by rw [powM_succ]; exact h2, ?_⟩
  have e : ∀ y : Int, y = ((i + 1 : Nat) : Int) → S5b w q' t xs p.fLeast y h' = S5b w q' t xs p.fLeast ((i + 1 : Nat) : Int) h' := fun y hy => by rw [hy]
  refine Eq.trans ?_ (e _ hw2)
  kernel_rfl
def moreM (p : S24) (w : List Int) : Int := if p.fMost < 0 then (w.length : Int) else p.fMost - p.fLeast
noncomputable abbrev N5 : Code := cR (cR M5)
abbrev S5c (w : List Int) (q t : Nat) (xs : List Tb) (m : Int) (G : List AObj) : St := Sm 252 [(6, sN q (w.length + 1)), (8, appF .nil t (xs.map mV)), (15, dI m)] G
theorem kind5b {r : Nat} (hg : Good False Proofs.Tryd.prog (ER r)) (n : Nat) (p : S24) (w : List Int) (q t : Nat) (xs : List Tb) (G : List AObj) (hb : G[0]? = some (boxP p))
    (hl0 : 0 ≤ p.fLeast) (hl9 : p.fLeast ≤ 9) (hm0 : -1 ≤ p.fMost) (hm9 : p.fMost ≤ 9) {Q : Post}
    (hQ : Ht False Proofs.Tryd.prog N5 (S5c w q t xs (moreM p w) G) Q) : Ht False Proofs.Tryd.prog M5 (S5a w q t xs G) Q := by
  have hw : w64 (p.fMost - p.fLeast) = p.fMost - p.fLeast := w64_id ⟨by omega, by omega⟩
  refine Ht.seq (by kernel_rfl) ?_
  refine Ht.region (hxR hg n) (by kernel_rfl) ?_
  refine Ops.seg' 1 1 (by kernel_rfl) ?_
  refine Ops.one' 2 (fun h0 e0 => ldc (i := ti3) (h := h0) (r := 0) (off := 4) (cs := cV p) (d := dI p.fMost) (hq_of (g := G) (e0.trans (by kernel_rfl)) hb) (by rfl)) (by kernel_rfl) (by kernel_rfl) ?_
  refine Ops.seg' 1 3 (by kernel_rfl) ?_
  refine Ops.one' 4 (fun h0 e0 => ldc (i := ti3) (h := h0) (r := 0) (off := 3) (cs := cV p) (d := dI p.fLeast) (hq_of (g := G) (e0.trans (by kernel_rfl)) hb) (by rfl)) (by kernel_rfl) (by kernel_rfl) ?_
  refine Ops.seg' 2 6 (by kernel_rfl) ?_
  refine Ops.done (by kernel_rfl) ?_
  refine seqH.n ?_
  refine Ht.forget [2, 5, 6, 8, 15] (Ht.st (σ' := Sm 252 [(2, .ptr 0 0), (5, dI (w.length : Int)), (6, sN q (w.length + 1)), (8, appF .nil t (xs.map mV)), (15, dI (w64 (p.fMost - p.fLeast)))] G) (by kernel_rfl) ?_)
  rw [hw]
  refine Ht.seq (by kernel_rfl) ?_
  refine Ht.seq (by kernel_rfl) ?_
  refine Ht.region (hxR hg n) (by kernel_rfl) ?_
  refine Ops.seg' 1 1 (by kernel_rfl) ?_
  refine Ops.one' 2 (fun h0 e0 => ldc (i := ti3) (h := h0) (r := 0) (off := 4) (cs := cV p) (d := dI p.fMost) (hq_of (g := G) (e0.trans (by kernel_rfl)) hb) (by rfl)) (by kernel_rfl) (by kernel_rfl) ?_
  refine Ops.seg' 1 3 (by kernel_rfl) ?_
  refine Ops.done (by kernel_rfl) ?_
  refine seqH.n ?_
  refine Ht.cond (decide (p.fMost < 0)) (by kernel_rfl) (by kernel_rfl) (fun hc => ?_) (fun hc => ?_)
  · have hc := of_decide_eq_true hc
    have e : moreM p w = (w.length : Int) := by unfold moreM; rw [if_pos hc]
    rw [e] at hQ
    refine Ht.region (hxR hg n) (by kernel_rfl) ?_
    refine Ops.seg' 2 2 (by kernel_rfl) ?_
    refine Ops.done (by kernel_rfl) ?_
    refine seqH.n ?_
    exact Ht.forget [6, 8, 15] (Ht.st (σ' := S5c w q t xs (w.length : Int) G) (by kernel_rfl) hQ)
  · have hc := of_decide_eq_false hc
    have e : moreM p w = p.fMost - p.fLeast := by unfold moreM; rw [if_neg hc]
    rw [e] at hQ
    refine Ht.skip (by kernel_rfl) ?_
    refine seqH.n ?_
    exact Ht.forget [6, 8, 15] (Ht.st (σ' := S5c w q t xs (p.fMost - p.fLeast) G) (by kernel_rfl) hQ)
end Go.Abs
