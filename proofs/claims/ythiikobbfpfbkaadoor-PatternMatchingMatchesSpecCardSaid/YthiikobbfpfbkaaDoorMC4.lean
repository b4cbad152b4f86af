import Derived.Test.YthiikobbfpfbkaaDoorMC0
namespace Go.Abs
open Go.Sort Go.Proofs
set_option linter.unusedVariables false
set_option maxRecDepth 100000
set_option maxHeartbeats 2000000
def OkM : Nat → S24 → Prop
  | 0, _ => False
  | r + 1, p => p.fLabels.length ≤ 300 ∧ p.fLabels.Pairwise (· < ·) ∧ p.fSubs.length ≤ 200 ∧ (∀ q ∈ p.fSubs, OkM r q.vw) ∧
    (p.fKind = 5 → p.fSubs.length = 1 ∧ 0 ≤ p.fLeast ∧ p.fLeast ≤ 9 ∧ -1 ≤ p.fMost ∧ p.fMost ≤ 9) ∧ (p.fKind ≠ 1 → p.fKind ≠ 2 → p.fKind ≠ 3 → p.fKind ≠ 5 → p.fSubs ≠ [])
abbrev Tb : Type := List (List Bool)
def mkM (N : Nat) (f : Nat → Nat → Bool) : Tb := (List.range N).map fun i => (List.range N).map fun j => f i j
def setM (ls w : List Int) : Tb := mkM (w.length + 1) fun i j => decide (j = i + 1) && (match w[i]? with
  | some x => ls.contains x
  | none => false)
def orM (a b : Tb) (N : Nat) : Tb := mkM N fun i j => cell a i j || cell b i j
def powM (s : Tb) (N : Nat) : Nat → Tb → Tb
  | 0, m => m
  | t + 1, m => powM s N t (thenM m s N)
def repM (s : Tb) (N : Nat) : Nat → Tb → Tb → Tb
  | 0, m, _ => m
  | t + 1, m, part => repM s N t (orM m (thenM part s N) N) (thenM part s N)
def eachM (k : Int) (subs : List Tb) (N : Nat) : Tb := mkM N fun i j =>
  if k = 4 then cell (subs.headD []) i j || subs.tail.any (fun s => cell s i j)
  else if k = 6 then cell (subs.headD []) i j && subs.tail.any (fun s => cell s i j)
  else if k = 7 then cell (subs.headD []) i j && !(subs.tail.any fun s => cell s i j) else false
noncomputable def mtx : Nat → S24 → List Int → Tb
  | 0, _, _ => []
  | r + 1, p, w =>
    if p.fKind = 1 then idM (w.length + 1) else if p.fKind = 2 then setM p.fLabels w
    else if p.fKind = 3 then (p.fSubs.map fun q => mtx r q.vw w).foldl (fun m s => thenM m s (w.length + 1)) (idM (w.length + 1))
    else if p.fKind = 5 then
      repM ((p.fSubs.map fun q => mtx r q.vw w).headD []) (w.length + 1) (if p.fMost < 0 then w.length else (p.fMost - p.fLeast).toNat)
        (powM ((p.fSubs.map fun q => mtx r q.vw w).headD []) (w.length + 1) p.fLeast.toNat (idM (w.length + 1)))
        (powM ((p.fSubs.map fun q => mtx r q.vw w).headD []) (w.length + 1) p.fLeast.toNat (idM (w.length + 1)))
    else eachM p.fKind (p.fSubs.map fun q => mtx r q.vw w) (w.length + 1)
theorem mkM_sq (N : Nat) (f : Nat → Nat → Bool) : Sq N (mkM N f) := by
  refine ⟨by simp [mkM], fun r hr => ?_⟩
  obtain ⟨i, _, rfl⟩ := List.mem_map.1 hr
  simp
theorem mkM_cell {N : Nat} {f : Nat → Nat → Bool} {i j : Nat} (hi : i < N) (hj : j < N) : cell (mkM N f) i j = f i j := by
  simp [cell, mkM, List.getD, hi, hj]
theorem idM_mk (N : Nat) : idM N = mkM N fun i j => decide (i = j) := rfl
theorem idM_sq (N : Nat) : Sq N (idM N) := mkM_sq N _
theorem powM_sq (s : Tb) (N : Nat) : ∀ (t : Nat) (m : Tb), Sq N m → Sq N (powM s N t m)
  | 0, m, h => h
  | t + 1, m, h => powM_sq s N t _ (thenM_sq _ _ _)
theorem repM_sq (s : Tb) (N : Nat) : ∀ (t : Nat) (m part : Tb), Sq N m → Sq N (repM s N t m part)
  | 0, m, _, h => h
  | t + 1, m, part, h => repM_sq s N t _ _ (mkM_sq _ _)
theorem fold_sq (N : Nat) : ∀ (l : List Tb) (m : Tb), Sq N m → Sq N (l.foldl (fun m s => thenM m s N) m)
  | [], m, h => h
  | s :: r, m, h => fold_sq N r _ (thenM_sq _ _ _)
theorem mtx_sq : ∀ (r : Nat) (p : S24) (w : List Int), OkM r p → Sq (w.length + 1) (mtx r p w)
  | 0, _, _, h => h.elim
  | r + 1, p, w, h => by
    unfold mtx
    split
    · exact idM_sq _
    · split
      · exact mkM_sq _ _
      · split
        · exact fold_sq _ _ _ (idM_sq _)
        · split
          · exact repM_sq _ _ _ _ _ (powM_sq _ _ _ _ (idM_sq _))
          · exact mkM_sq _ _
theorem eI_inj' {a b : List Int} (h : a.map eI = b.map eI) : a = b := by
  induction a generalizing b with
  | nil => cases b with
    | nil => rfl
    | cons y r => cases h
  | cons x a ih => cases b with
    | nil => cases h
    | cons y b =>
      rw [List.map_cons, List.map_cons, List.cons.injEq] at h
      obtain ⟨h1, h2⟩ := h
      cases h1
      rw [ih h2]
theorem e24_inj' {a b : S24} (h : e24 a = e24 b) : a = b := by
  have hp : ∀ {x y : List P24}, x.map ep24 = y.map ep24 → x = y := by
    intro x
    induction x with
    | nil => intro y h; cases y with
      | nil => rfl
      | cons z r => cases h
    | cons u x ih => intro y h; cases y with
      | nil => cases h
      | cons z y =>
        rw [List.map_cons, List.map_cons, List.cons.injEq] at h
        obtain ⟨h1, h2⟩ := h
        rw [show u = z from Subtype.ext h1, ih h2]
  obtain ⟨a1, a2, a3, a4, a5⟩ := a
  obtain ⟨b1, b2, b3, b4, b5⟩ := b
  simp only [e24, V.agg.injEq, List.cons.injEq, V.int.injEq, V.sl.injEq, true_and, and_true] at h
  obtain ⟨h1, h2, h3, h4, h5⟩ := h
  rw [h1, eI_inj' h2, hp h3, h4, h5]
open Classical in
noncomputable def matF (r : Nat) (vs : List V) : Option V :=
  if h : ∃ (p : S24) (w : List Int), vs = [e24 p, vP eI w] ∧ OkM r p ∧ w.length ≤ 10000 then some (mV (mtx r (Classical.choose h) (Classical.choose (Classical.choose_spec h)))) else none
theorem matF_eq (r : Nat) (p : S24) (w : List Int) (h1 : OkM r p) (h2 : w.length ≤ 10000) : matF r [e24 p, vP eI w] = some (mV (mtx r p w)) := by
  have h : ∃ (p' : S24) (w' : List Int), [e24 p, vP eI w] = [e24 p', vP eI w'] ∧ OkM r p' ∧ w'.length ≤ 10000 := ⟨p, w, rfl, h1, h2⟩
  unfold matF
  rw [dif_pos h]
  have hs := Classical.choose_spec (Classical.choose_spec h)
  have e1 := hs.1
  generalize Classical.choose (Classical.choose_spec h) = w' at e1
  generalize Classical.choose h = p' at e1
  have e2 := (List.cons.inj e1).1
  have e3 := (List.cons.inj (List.cons.inj e1).2).1
  have hp := e24_inj' e2
  have hw : w = w' := eI_inj' (by
    have : V.sl .plain (w.map eI) = V.sl .plain (w'.map eI) := e3
    simpa using this)
  rw [← hp, ← hw]
theorem matF_of {r : Nat} {vs : List V} {v : V} (h : matF r vs = some v) : ∃ p w, vs = [e24 p, vP eI w] ∧ OkM r p ∧ w.length ≤ 10000 ∧ v = mV (mtx r p w) := by
  unfold matF at h
  split at h
  · rename_i hh
    have hs := Classical.choose_spec (Classical.choose_spec hh)
    exact ⟨_, _, hs.1, hs.2.1, hs.2.2, (Option.some.inj h).symm⟩
  · cases h
theorem is53 : Is Proofs.Tryd.prog 53 := ⟨Proofs.Tryd.f53, Proofs.Tryd.func53, by kernel_rfl, by kernel_rfl⟩
theorem is55 : Is Proofs.Tryd.prog 55 := ⟨Proofs.Tryd.f55, Proofs.Tryd.func55, by kernel_rfl, by kernel_rfl⟩
theorem is54 : Is Proofs.Tryd.prog 54 := ⟨Proofs.Tryd.f54, Proofs.Tryd.func54, by kernel_rfl, by kernel_rfl⟩
def OkL (l : List Int) : Prop := l.length ≤ 300 ∧ l.Pairwise (· < ·)
theorem bs_ex {l : List Int} (h : OkL l) (x : Int) : ∃ k, f54 400 l x = some (k, l.contains x) := f54_eq 400 l x (Nat.le_trans h.1 (by omega)) (Nat.lt_of_le_of_lt h.1 (by omega)) h.2
noncomputable def bsK (l : List Int) (x : Int) : Int := match f54 400 l x with
  | some (k, _) => k
  | none => 0
theorem bsK_eq {l : List Int} (h : OkL l) (x : Int) : f54 400 l x = some (bsK l x, l.contains x) := by
  obtain ⟨k, hk⟩ := bs_ex h x
  unfold bsK
  rw [hk]
open Classical in
noncomputable def bsF (vs : List V) : Option V := if h : ∃ (l : List Int) (x : Int), vs = [vP eI l, vI x] ∧ OkL l then some (.tuple [vI (bsK (Classical.choose h) (Classical.choose (Classical.choose_spec h))), vB ((Classical.choose h).contains (Classical.choose (Classical.choose_spec h)))]) else none
theorem bsF_inj {l l' : List Int} {x x' : Int} (h : ([vP eI l, vI x] : List V) = [vP eI l', vI x']) : l = l' ∧ x = x' := by
  have e2 := (List.cons.inj h).1
  have e3 := (List.cons.inj (List.cons.inj h).2).1
  refine ⟨eI_inj' (by
    have : V.sl .plain (l.map eI) = V.sl .plain (l'.map eI) := e2
    simpa using this), ?_⟩
  cases e3
  rfl
theorem bsF_eq {l : List Int} (h1 : OkL l) (x : Int) : bsF [vP eI l, vI x] = some (.tuple [vI (bsK l x), vB (l.contains x)]) := by
  have h : ∃ (l' : List Int) (x' : Int), [vP eI l, vI x] = [vP eI l', vI x'] ∧ OkL l' := ⟨l, x, rfl, h1⟩
  unfold bsF
  rw [dif_pos h]
  have hs := (Classical.choose_spec (Classical.choose_spec h)).1
  generalize Classical.choose (Classical.choose_spec h) = x' at hs
  generalize Classical.choose h = l' at hs
  obtain ⟨e1, e2⟩ := bsF_inj hs
  rw [← e1, ← e2]
theorem bsF_of {vs : List V} {v : V} (h : bsF vs = some v) : ∃ l x, vs = [vP eI l, vI x] ∧ OkL l ∧ v = .tuple [vI (bsK l x), vB (l.contains x)] := by
  unfold bsF at h
  split at h
  · rename_i hh
    have hs := Classical.choose_spec (Classical.choose_spec hh)
    exact ⟨_, _, hs.1, hs.2, (Option.some.inj h).symm⟩
  · cases h
theorem bsF_ok (hE : Good False Proofs.Tryd.prog E) : OraOk False Proofs.Tryd.prog 54 bsF := by
  refine ⟨is54, fun vs r h => ?_⟩
  obtain ⟨l, x, rfl, h1, rfl⟩ := bsF_of h
  have hn : ∀ a : Nat, a + 3 ≤ a + 3 := fun a => Nat.le_refl _
  have he := bsK_eq h1 x
  revert he
  generalize (400 : Nat) = m
  intro he
  have hf := ok54 m l x (bsK l x, l.contains x) he (m + 3) (hn m)
  obtain ⟨d, h', hrun, hr⟩ := hf
  exact (pureCalls (xs := [vP eI l, vI x]) hE hrun hr).2
noncomputable def ER (r : Nat) : Env := (E.with 54 bsF).with 33 (matF r)
theorem ER_good (hE : Good False Proofs.Tryd.prog E) {r : Nat} (h : OraOk False Proofs.Tryd.prog 33 (matF r)) : Good False Proofs.Tryd.prog (ER r) := (hE.with (bsF_ok hE)).with h
theorem fn54 (r n : Nat) {l : List Int} (h1 : OkL l) (x : Int) : Fn Proofs.Tryd.prog (ER r) (n + 1) 54 [.v (vP eI l), .v (vI x)] (.tuple [vI (bsK l x), vB (l.contains x)]) :=
  ora_fn (F := bsF) (xs := [vP eI l, vI x]) (by kernel_rfl) rfl rfl (bsF_eq h1 x) rfl
noncomputable def XR (r n : Nat) : Cx := ⟨{ ER r with rowM := false, pureF := fun f => E.pureF f && !(f == 53 || f == 55) }, run Proofs.Tryd.prog (ER r) n, ⟨fun _ => [], fun _ => [], fun _ => []⟩, [], n⟩
theorem hxR {r : Nat} (hg : Good False Proofs.Tryd.prog (ER r)) (n : Nat) : Hx False Proofs.Tryd.prog (XR r n) := ⟨hg.mixed, hg.types, fun f ds h d h' hd => run_sound hg n f ds h d h' hd⟩
theorem call53 (n m : Nat) (hm : m ≤ 10000) (H : List AObj) : CallT False Proofs.Tryd.prog 53 [dI (m : Int)] H (fun d h' => ∃ q, d = sN q (m + 1) ∧ H.length ≤ q ∧ Tab h' q (idM (m + 1)) ∧ Pre H h') := by
  refine (callT_of_ht (T := T) (c := C53) Proofs.Tryd.func53 (by kernel_rfl) T_ok (Qc := fun d h' => ∃ q, d = sN q (m + 1) ∧ H.length ≤ q ∧ Tab h' q (idM (m + 1)) ∧ Pre H h') ((id53 n m hm H).mono ?_))
  rintro e σ ⟨he, q, h1, h2, h3, h4⟩
  refine ⟨he, _, h1, q, ?_, h2, h3, h4⟩
  rw [show (idM (m + 1)).length = m + 1 by simp [idM]]
theorem call55 (n : Nat) (H : List AObj) (qm N : Nat) (hN : N ≤ 10001) (a b : Tb) (ha : Sq N a) (hb : Sq N b) (hm : Tab H qm a) : CallT False Proofs.Tryd.prog 55 [sN qm N, .v (mV b)] H (fun d h' => ∃ q, d = sN q N ∧ H.length ≤ q ∧ Tab h' q (thenM a b N) ∧ Pre H h') := by
  refine (callT_of_ht (T := T) (c := C55) Proofs.Tryd.func55 (by kernel_rfl) T_ok (Qc := fun d h' => ∃ q, d = sN q N ∧ H.length ≤ q ∧ Tab h' q (thenM a b N) ∧ Pre H h') ((then55 n H qm N hN a b ha hb hm).mono ?_))
  rintro e σ ⟨he, q, h1, h2, h3, h4⟩
  refine ⟨he, _, h1, q, ?_, h2, h3, h4⟩
  rw [(thenM_sq a b N).1]
theorem frz_tab {h : List AObj} {q : Nat} {rows : Tb} (ht : Tab h q rows) (k : Nat) : frz h (k + 2) (sN q rows.length) = some (mV rows) := by
  have hrow : ∀ (l : Tb) (s : Nat), (∀ (i : Nat) r, l[i]? = some r → r.length = rows.length ∧ h[q + 1 + (s + i)]? = some (bO r)) → allM (frz h (k + 1)) ((List.range l.length).map fun t => sN (q + 1 + (s + t)) rows.length) = some (l.map rV) := by
    intro l
    induction l with
    | nil => intro s _; rfl
    | cons r l ih =>
      intro s hl
      obtain ⟨g1, g2⟩ := hl 0 r rfl
      have e1 : frz h (k + 1) (sN (q + 1 + (s + 0)) rows.length) = some (rV r) := by
        simp only [frz, g2]
        rw [if_pos (by rw [List.length_map]; omega), List.drop_zero, List.take_of_length_le (by rw [List.length_map]; omega)]
        rfl
      have ih := ih (s + 1) fun i r' hi => by
        have := hl (i + 1) r' hi
        rw [show s + 1 + i = s + (i + 1) by omega]
        exact this
      rw [List.length_cons, List.range_succ_eq_map, List.map_cons, List.map_map]
      have e2 : ((fun t => sN (q + 1 + (s + t)) rows.length) ∘ Nat.succ) = fun t => sN (q + 1 + (s + 1 + t)) rows.length := by
        funext t
        show sN (q + 1 + (s + (t + 1))) rows.length = _
        rw [show s + (t + 1) = s + 1 + t by omega]
      simp only [allM, e1, e2, ih, List.map_cons]
  have h0 := hrow rows 0 fun i r hi => by rw [Nat.zero_add]; exact ht.2 i r hi
  simp only [Nat.zero_add] at h0
  simp only [frz, ht.1, mO]
  rw [if_pos (by simp), List.drop_zero, List.take_of_length_le (by simp), h0]
  have hsc : (rows.map rV).all V.scalar = true := by
    rw [List.all_eq_true]
    intro x hx
    obtain ⟨r, _, rfl⟩ := List.mem_map.1 hx
    rfl
  simp only [hsc, if_true]
  rfl
noncomputable def C33 : Code := bodyOf Proofs.Tryd.prog 33
noncomputable abbrev A33c : Code := cR (cR (cR C33))
noncomputable abbrev A33d : Code := cR A33c
noncomputable abbrev A33e : Code := cR A33d
noncomputable abbrev A33f : Code := cR A33e
def boxP (p : S24) : AObj := .cells [dI p.fKind, .v (vP eI p.fLabels), .v (vP ep24 p.fSubs), dI p.fLeast, dI p.fMost]
def zM (N : Nat) : Tb := mkM N fun _ _ => false
theorem zM_len (N : Nat) : (zM N).length = N := (mkM_sq N _).1
theorem zM_row {N i : Nat} {r : List Bool} (h : (zM N)[i]? = some r) : i < N ∧ r = List.replicate N false := by
  have hi : i < N := by have := lt_of_getElem? h; simpa [zM, mkM] using this
  refine ⟨hi, ?_⟩
  simp only [zM, mkM, List.getElem?_map, List.getElem?_range hi, Option.map_some, Option.some.injEq] at h
  rw [← h]
  exact (List.ext_getElem (by simp) fun j h1 h2 => by simp)
structure InvR (p : S24) (N i : Nat) (G : List AObj) : Prop where
  len : G.length = 2 + i
  box : G[0]? = some (boxP p)
  out : G[1]? = some (.cells (mPc 1 N i))
  old : ∀ t, t < i → G[2 + t]? = some (bO (List.replicate N false))
abbrev S33a (w : List Int) (i : Int) (G : List AObj) : St := Sm 252 [(1, .v (vP eI w)), (2, .ptr 0 0), (4, .v nilS), (5, dI (w.length : Int)), (6, sN 1 (w.length + 1)), (31, dI ((w.length + 1 : Nat) : Int)), (32, dI i)] G
abbrev S33b (w : List Int) (G : List AObj) : St := Sm 252 [(1, .v (vP eI w)), (2, .ptr 0 0), (4, .v nilS), (5, dI (w.length : Int)), (6, sN 1 (w.length + 1))] G
theorem rows33 {r : Nat} (hg : Good False Proofs.Tryd.prog (ER r)) (n : Nat) (p : S24) (w : List Int) (hw0 : w.length ≤ 10000) {Q : Post}
    (hQ : ∀ G, G[0]? = some (boxP p) → Tab G 1 (zM (w.length + 1)) → Ht False Proofs.Tryd.prog A33d (S33b w G) Q) :
    Ht False Proofs.Tryd.prog C33 (startIn Proofs.Tryd.prog 33 [.v (e24 p), .v (vP eI w)] []) Q := by
  have hw : w64 ((w.length : Int) + 1) = ((w.length + 1 : Nat) : Int) := by rw [w64_id ⟨by omega, by omega⟩]; omega
  refine Ht.seq (by kernel_rfl) ?_
  refine Ht.region (hxR hg n) (by kernel_rfl) ?_
  refine Ops.seg' 2 2 (by kernel_rfl) ?_
  refine Ops.done (by kernel_rfl) ?_
  refine seqH.n ?_
  refine Ht.forget [1, 2, 4] (Ht.st (σ' := Sm 252 [(1, .v (vP eI w)), (2, .ptr 0 0), (4, .v nilS)] [boxP p]) (by kernel_rfl) ?_)
  refine Ht.seq (by kernel_rfl) ?_
  refine Ht.region (hxR hg n) (by kernel_rfl) ?_
  refine Ops.seg' 1 1 (by kernel_rfl) ?_
  refine Ops.one' 2 (fun h0 e0 => len_r (T := T) h0 22 3 .plain eI w (by kernel_rfl)) (by kernel_rfl) (by kernel_rfl) ?_
  refine Ops.seg' 1 3 (by kernel_rfl) ?_
  refine Ops.done (by kernel_rfl) ?_
  refine seqH.n ?_
  refine Ht.forget [1, 2, 4, 5] (Ht.st (σ' := Sm 252 [(1, .v (vP eI w)), (2, .ptr 0 0), (4, .v nilS), (5, dI (w.length : Int))] [boxP p]) (by kernel_rfl) ?_)
  refine Ht.seq (by kernel_rfl) ?_
  refine Ht.region (hxR hg n) (by kernel_rfl) ?_
  refine Ops.seg' 2 2 (by kernel_rfl) ?_
  refine Ops.one' 3 (fun h0 e0 => mk69 h0 (N := w.length + 1) hw (by omega)) (by kernel_rfl) (by kernel_rfl) ?_
  refine Ops.seg' 1 4 (by kernel_rfl) ?_
  refine Ops.done (by kernel_rfl) ?_
  refine seqH.n ?_
  refine Ht.seq (by kernel_rfl) ?_
  refine Ht.forget [1, 2, 4, 5, 6] (Ht.st (σ' := S33b w ([boxP p] ++ [.cells (List.replicate (w.length + 1) (.v nilS))])) (by kernel_rfl) ?_)
  refine Ht.seq (by kernel_rfl) ?_
  refine Ht.region (hxR hg n) (by kernel_rfl) ?_
  refine Ops.seg' 3 3 (by kernel_rfl) ?_
  refine Ops.done (by kernel_rfl) ?_
  refine seqH.n ?_
  refine Ht.block 0 (by kernel_rfl) ?_
  refine Ht.loop (fun k σ => ∃ (i : Nat) (G : List AObj), k = w.length + 1 - i ∧ i ≤ w.length + 1 ∧ InvR p (w.length + 1) i G ∧ Abs.forget [1, 2, 4, 5, 6, 31, 32] σ = S33a w (i : Int) G) (w.length + 1) (by kernel_rfl) ⟨0, [boxP p] ++ [.cells (List.replicate (w.length + 1) (.v nilS))], rfl, Nat.zero_le _, ?_, by kernel_rfl⟩ ?_
  · refine ⟨rfl, rfl, ?_, fun t ht => by omega⟩
    have := mP_zero 1 (w.length + 1)
    unfold mP at this
    rw [this]; rfl
  rintro k σ ⟨i, G, rfl, hi, hG, hσ⟩
  refine Ht.forget [1, 2, 4, 5, 6, 31, 32] (Ht.st hσ ?_)
  clear hσ
  refine Ht.seq (by kernel_rfl) ?_
  refine Ht.region (hxR hg n) (by kernel_rfl) ?_
  refine Ops.seg' 1 1 (by kernel_rfl) ?_
  refine Ops.done (by kernel_rfl) ?_
  refine seqH.n ?_
  refine Ht.seq (by kernel_rfl) ?_
  refine Ht.cond (decide ((i : Int) < ((w.length + 1 : Nat) : Int))) (by kernel_rfl) (by kernel_rfl) (fun hc => ?_) (fun hc => ?_)
  case refine_2 =>
    have hc := of_decide_eq_false hc
    have hi2 : i = w.length + 1 := by omega
    refine Ht.exit (id := 0) (by kernel_rfl) ?_
    show Ht False Proofs.Tryd.prog A33d _ Q
    refine Ht.forget [1, 2, 4, 5, 6] (Ht.st (σ' := S33b w G) (by kernel_rfl) (hQ G hG.box ⟨?_, fun t r htr => ?_⟩))
    · rw [zM_len, ← mP_full]
      rw [hi2] at hG
      exact hG.out
    · obtain ⟨h1, h2⟩ := zM_row htr
      subst h2
      exact ⟨by rw [zM_len]; simp, hG.old t (by omega)⟩
  have hc := of_decide_eq_true hc
  have hi : i < w.length + 1 := by omega
  have hw2 : w64 ((i : Int) + 1) = ((i + 1 : Nat) : Int) := by rw [w64_id ⟨by omega, by omega⟩]; omega
  have g1 := hG.len
  refine Ht.skip (by kernel_rfl) ?_
  refine seqH.n ?_
  refine Ht.seq (by kernel_rfl) ?_
  refine Ht.block 1 (by kernel_rfl) ?_
  refine Ht.seq (by kernel_rfl) ?_
  refine Ht.region (hxR hg n) (by kernel_rfl) ?_
  refine Ops.seg' 2 2 (by kernel_rfl) ?_
  refine Ops.done (by kernel_rfl) ?_
  refine seqH.n ?_
  refine Ht.region (hxR hg n) (by kernel_rfl) ?_
  refine Ops.seg' 4 4 (by kernel_rfl) ?_
  refine Ops.one' 5 (fun h0 e0 => mk67 h0 (N := w.length + 1) hw (by omega)) (by kernel_rfl) (by kernel_rfl) ?_
  let z : List Bool := List.replicate (w.length + 1) false
  have k1 : (G ++ [bO z])[1]? = some (.cells (mPc 1 (w.length + 1) i)) := by rw [List.getElem?_append_left (by omega)]; exact hG.out
  refine Ops.one' 6 (fun h0 e0 => ixC (h := h0) (q := 1) (N := w.length + 1) (i := i) (hq_of (g := G ++ [bO z]) (e0.trans (by kernel_rfl)) k1) rfl hi) (by kernel_rfl) (by kernel_rfl) ?_
  refine Ops.one' 7 (fun h0 e0 => stC (h := h0) (q := 1) (i := i) (r := G.length) (N := w.length + 1) (hq_of (g := G ++ [bO z]) (e0.trans (by kernel_rfl)) k1) (by rw [mPc_len]; exact hi)) (by kernel_rfl) (by kernel_rfl) ?_
  refine Ops.done (by kernel_rfl) ?_
  refine blkH.n ?_
  refine seqH.n ?_
  refine Ht.forget [1, 2, 4, 5, 6, 31, 32] (Ht.st (σ' := S33a w (i : Int) ((G ++ [bO z]).set 1 (.cells ((mPc 1 (w.length + 1) i).set i (sN G.length (w.length + 1)))))) (by kernel_rfl) ?_)
  rw [g1, show 2 + i = 1 + 1 + i by omega, mP_set 1 (w.length + 1) i hi]
  refine Ht.region (hxR hg n) (by kernel_rfl) ?_
  refine Ops.seg' 2 2 (by kernel_rfl) ?_
  refine Ops.done (by kernel_rfl) ?_
  refine ⟨w.length + 1 - (i + 1), by omega, i + 1, (G ++ [bO z]).set 1 (.cells (mPc 1 (w.length + 1) (i + 1))), rfl, hi, ⟨by simp; omega, ?_, List.getElem?_set_self (by simp; omega), fun t ht => ?_⟩, ?_⟩
  · rw [List.getElem?_set_ne (by omega), List.getElem?_append_left (by omega)]; exact hG.box
  · rw [List.getElem?_set_ne (by omega)]
    by_cases h : t = i
    · subst h
      rw [← g1, List.getElem?_append_right (Nat.le_refl _), Nat.sub_self]; rfl
    · rw [List.getElem?_append_left (by omega)]; exact hG.old t (by omega)
  · have e : ∀ x : Int, x = ((i + 1 : Nat) : Int) → S33a w x ((G ++ [bO z]).set 1 (.cells (mPc 1 (w.length + 1) (i + 1)))) = S33a w ((i + 1 : Nat) : Int) ((G ++ [bO z]).set 1 (.cells (mPc 1 (w.length + 1) (i + 1)))) := fun x hx => by rw [hx]
    refine Eq.trans ?_ (e _ hw2)
    kernel_rfl
theorem ldc {i : TI} {h : List AObj} {r off : Nat} {cs : List D} {d : D} (hr : h[r]? = some (.cells cs)) (hd : (cut cs off i.size).bind (mkOf i.kind.isAgg) = some d) : (loadD i h (.ptr r off)).map (·, h) = some (d, h) := by
  simp only [loadD, hr, hd, Option.map_some]
theorem stc {i : TI} {h : List AObj} {r off : Nat} {cs cs' : List D} {x : D} (hr : h[r]? = some (.cells cs)) (hs : (x.solid && x.cells.length == i.size) = true) (hc : splice cs off x.cells = some cs') : (storeD i h (.ptr r off) x).map (U, ·) = some (U, h.set r (.cells cs')) := by
  simp only [storeD, hs, if_true, hr, hc, Option.map_some]
theorem fn33 {r : Nat} (hg : Good False Proofs.Tryd.prog (ER r)) (n : Nat) (p : S24) (w : List Int) (hp : OkM r p) (hw : w.length ≤ 10000) : Fn Proofs.Tryd.prog (ER r) (n + 1) 33 [.v (e24 p), .v (vP eI w)] (mV (mtx r p w)) :=
  ora_fn (F := matF r) (xs := [e24 p, vP eI w]) (by kernel_rfl) rfl rfl (matF_eq r p w hp hw) rfl
abbrev cV (p : S24) : List D := [dI p.fKind, .v (vP eI p.fLabels), .v (vP ep24 p.fSubs), dI p.fLeast, dI p.fMost]
abbrev c0 : List D := [dI 0, .v nilS, .v nilS, dI 0, dI 0]
abbrev S33c (p : S24) (w : List Int) (t : Nat) (xs : List Tb) (i : Int) (G : List AObj) : St := Sm 252 [(1, .v (vP eI w)), (2, .ptr 0 0), (4, .v nilS), (5, dI (w.length : Int)), (6, sN 1 (w.length + 1)), (8, appF .nil t (xs.map mV)), (43, .v (vP ep24 p.fSubs)), (44, dI (p.fSubs.length : Int)), (45, dI i)] G
abbrev S33d (w : List Int) (t : Nat) (xs : List Tb) (G : List AObj) : St := Sm 252 [(1, .v (vP eI w)), (2, .ptr 0 0), (4, .v nilS), (5, dI (w.length : Int)), (6, sN 1 (w.length + 1)), (8, appF .nil t (xs.map mV))] G
theorem subs33 {r : Nat} (hg : Good False Proofs.Tryd.prog (ER r)) (n : Nat) (p : S24) (w : List Int) (hw0 : w.length ≤ 10000) (hl : p.fSubs.length ≤ 200) (hs : ∀ q ∈ p.fSubs, OkM r q.vw) {Q : Post} (G0 : List AObj) (hb : G0[0]? = some (boxP p))
    (hQ : ∀ G t, Pre G0 G → Ht False Proofs.Tryd.prog A33f (S33d w t (p.fSubs.map fun q => mtx r q.vw w) G) Q) :
    Ht False Proofs.Tryd.prog A33d (S33b w G0) Q := by
  refine Ht.seq (by kernel_rfl) ?_
  refine Ht.region (hxR hg (n + 1)) (by kernel_rfl) ?_
  refine Ops.seg' 1 1 (by kernel_rfl) ?_
  refine Ops.done (by kernel_rfl) ?_
  refine seqH.n ?_
  refine Ht.seq (by kernel_rfl) ?_
  refine Ht.seq (by kernel_rfl) ?_
  refine Ht.region (hxR hg (n + 1)) (by kernel_rfl) ?_
  refine Ops.seg' 1 1 (by kernel_rfl) ?_
  refine Ops.one' 2 (fun h0 e0 => ldc (i := ti23) (h := h0) (r := 0) (off := 2) (cs := cV p) (d := .v (vP ep24 p.fSubs)) (hq_of (g := G0) (e0.trans (by kernel_rfl)) hb) (by rfl)) (by kernel_rfl) (by kernel_rfl) ?_
  refine Ops.one' 3 (fun h0 e0 => len_r (T := T) h0 23 25 .plain ep24 p.fSubs (by kernel_rfl)) (by kernel_rfl) (by kernel_rfl) ?_
  refine Ops.seg' 1 4 (by kernel_rfl) ?_
  refine Ops.done (by kernel_rfl) ?_
  refine seqH.n ?_
  refine Ht.block 2 (by kernel_rfl) ?_
  refine Ht.loop (fun k σ => ∃ (i : Nat) (G : List AObj) (t : Nat), k = p.fSubs.length - i ∧ i ≤ p.fSubs.length ∧ Pre G0 G ∧ (0 < i → G0.length ≤ t ∧ G[t]? = some (appO 1 (((p.fSubs.take i).map fun q => mtx r q.vw w).map mV))) ∧
      Abs.forget [1, 2, 4, 5, 6, 8, 43, 44, 45] σ = S33c p w t ((p.fSubs.take i).map fun q => mtx r q.vw w) (i : Int) G) p.fSubs.length (by kernel_rfl) ⟨0, G0, 0, rfl, Nat.zero_le _, Pre.refl _, fun h => by omega, by kernel_rfl⟩ ?_
  rintro k σ ⟨i, G, t, rfl, hi, hG, ht, hσ⟩
  refine Ht.forget [1, 2, 4, 5, 6, 8, 43, 44, 45] (Ht.st hσ ?_)
  clear hσ
  refine Ht.seq (by kernel_rfl) ?_
  refine Ht.region (hxR hg (n + 1)) (by kernel_rfl) ?_
  refine Ops.seg' 1 1 (by kernel_rfl) ?_
  refine Ops.done (by kernel_rfl) ?_
  refine seqH.n ?_
  refine Ht.seq (by kernel_rfl) ?_
  refine Ht.cond (decide ((i : Int) < (p.fSubs.length : Int))) (by kernel_rfl) (by kernel_rfl) (fun hc => ?_) (fun hc => ?_)
  case refine_2 =>
    have hc := of_decide_eq_false hc
    have hi2 : i = p.fSubs.length := by omega
    refine Ht.exit (id := 2) (by kernel_rfl) ?_
    show Ht False Proofs.Tryd.prog A33f _ Q
    have htk : p.fSubs.take i = p.fSubs := by rw [hi2, List.take_length]
    rw [htk]
    exact Ht.forget [1, 2, 4, 5, 6, 8] (Ht.st (σ' := S33d w t (p.fSubs.map fun q => mtx r q.vw w) G) (by kernel_rfl) (hQ G t hG))
  have hc := of_decide_eq_true hc
  have hi : i < p.fSubs.length := by omega
  have hw2 : w64 ((i : Int) + 1) = ((i + 1 : Nat) : Int) := by rw [w64_id ⟨by omega, by omega⟩]; omega
  obtain ⟨q, hq⟩ : ∃ q, p.fSubs[i]? = some q := ⟨_, List.getElem?_eq_getElem hi⟩
  have hqm : q ∈ p.fSubs := List.mem_of_getElem? hq
  have hix : idx p.fSubs (i : Int) = some q := by simp [idx, hq]
  have htk : (p.fSubs.take (i + 1)).map (fun q => mtx r q.vw w) = ((p.fSubs.take i).map fun q => mtx r q.vw w) ++ [mtx r q.vw w] := by
    rw [List.take_add_one, hq]; simp
  refine Ht.skip (by kernel_rfl) ?_
  refine seqH.n ?_
  refine Ht.seq (by kernel_rfl) ?_
  refine Ht.block 3 (by kernel_rfl) ?_
  refine Ht.seq (by kernel_rfl) ?_
  refine Ht.region (hxR hg (n + 1)) (by kernel_rfl) ?_
  refine Ops.one' 1 (fun h0 e0 => ixb24 (ix_r (T := T) h0 23 25 5 .plain ep24 p.fSubs (i : Int) q hix (by kernel_rfl) (by kernel_rfl) ep24_len)) (by kernel_rfl) (by kernel_rfl) ?_
  refine Ops.seg' 2 3 (by kernel_rfl) ?_
  have z1 : (G ++ [AObj.cells c0])[G.length]? = some (.cells c0) := by rw [List.getElem?_append_right (Nat.le_refl _), Nat.sub_self]; rfl
  refine Ops.one' 4 (fun h0 e0 => stc (i := ti25) (h := h0) (r := G.length) (off := 0) (cs := c0) (cs' := cV q.vw) (x := .v (e24 q.vw)) (hq_of (g := G ++ [AObj.cells c0]) (e0.trans (by kernel_rfl)) z1) (by rfl) (by rfl)) (by kernel_rfl) (by kernel_rfl) ?_
  refine Ops.done (by kernel_rfl) ?_
  refine seqH.n ?_
  obtain ⟨G1, hG1⟩ : ∃ G1, (G ++ [AObj.cells c0]).set G.length (AObj.cells (cV q.vw)) = G1 := ⟨_, rfl⟩
  refine Ht.forget [1, 2, 4, 5, 6, 8, 10, 43, 44, 45] (Ht.st (σ' := Sm 252 [(1, .v (vP eI w)), (2, .ptr 0 0), (4, .v nilS), (5, dI (w.length : Int)), (6, sN 1 (w.length + 1)), (8, appF .nil t (((p.fSubs.take i).map fun q => mtx r q.vw w).map mV)), (10, .ptr G.length 0), (43, .v (vP ep24 p.fSubs)), (44, dI (p.fSubs.length : Int)), (45, dI (i : Int))] ((G ++ [AObj.cells c0]).set G.length (AObj.cells (cV q.vw)))) (by kernel_rfl) ?_)
  rw [hG1]
  have l1 : G1.length = G.length + 1 := by rw [← hG1]; simp
  have b1 : G1[G.length]? = some (.cells (cV q.vw)) := by rw [← hG1]; exact List.getElem?_set_self (by simp)
  have p1 : Pre G G1 := by rw [← hG1]; exact (Pre.app G _).set (Nat.le_refl _) _
  clear hG1 z1
  refine Ht.region (hxR hg (n + 1)) (by kernel_rfl) ?_
  refine Ops.seg' 1 1 (by kernel_rfl) ?_
  refine Ops.one' 2 (fun h0 e0 => ldc (i := ti25) (h := h0) (r := G.length) (off := 0) (cs := cV q.vw) (d := .v (e24 q.vw)) (hq_of (g := G1) (e0.trans (by kernel_rfl)) b1) (by rfl)) (by kernel_rfl) (by kernel_rfl) ?_
  refine Ops.seg' 1 3 (by kernel_rfl) ?_
  refine Ops.one' 4 (fun h0 e0 => call_ok (E' := (XR r (n + 1)).E) (h := h0) (by kernel_rfl) (Args.v (e24 q.vw) (e24 q.vw) (by kernel_rfl) (Args.v (vP eI w) (vP eI w) (by kernel_rfl) Args.nil)) (fn33 hg n q.vw w (hs q hqm) hw0)) (by kernel_rfl) (by kernel_rfl) ?_
  refine Ops.seg' 1 5 (by kernel_rfl) ?_
  have happ : app ti69.bytes ((p.fSubs.take i).map fun q => mtx r q.vw w) [mtx r q.vw w] = some (((p.fSubs.take i).map fun q => mtx r q.vw w) ++ [mtx r q.vw w]) := by
    unfold app
    rw [if_pos ⟨by simp; show (min i p.fSubs.length + 1) * 24 ≤ _; omega, by simp; unfold maxLen; omega⟩]
  rcases Nat.eq_zero_or_pos i with h0i | h0i
  · subst h0i
    have htk : (p.fSubs.take (0 + 1)).map (fun q => mtx r q.vw w) = [] ++ [mtx r q.vw w] := htk
    refine Ops.one' 6 (fun h0 e0 => app_n (T := T) (g := .nil) h0 88 69 1 ti69 .nonfull mV [mtx r q.vw w] ([] ++ [mtx r q.vw w]) happ (by kernel_rfl) (by kernel_rfl) (by kernel_rfl) (by kernel_rfl) (fun _ => rfl)) (by kernel_rfl) (by kernel_rfl) ?_
    refine Ops.seg' 1 7 (by kernel_rfl) ?_
    refine Ops.done (by kernel_rfl) ?_
    refine blkH.n ?_
    refine seqH.n ?_
    refine Ht.forget [1, 2, 4, 5, 6, 8, 43, 44, 45] (Ht.st (σ' := S33c p w G1.length ([] ++ [mtx r q.vw w]) (((0 : Nat) : Int) : Int) (G1 ++ [appO 1 (([] ++ [mtx r q.vw w]).map mV)])) (by kernel_rfl) ?_)
    refine Ht.region (hxR hg (n + 1)) (by kernel_rfl) ?_
    refine Ops.seg' 2 2 (by kernel_rfl) ?_
    refine Ops.done (by kernel_rfl) ?_
    refine ⟨p.fSubs.length - (0 + 1), by omega, 0 + 1, G1 ++ [appO 1 (([] ++ [mtx r q.vw w]).map mV)], G1.length, rfl, hi, (hG.trans p1).trans (Pre.app _ _), fun _ => ⟨Nat.le_trans hG.1 (by omega), ?_⟩, ?_⟩
    · rw [htk, List.getElem?_append_right (by simp)]; simp
    · rw [htk]
      have e : ∀ x : Int, x = ((0 + 1 : Nat) : Int) → S33c p w G1.length ([] ++ [mtx r q.vw w]) x (G1 ++ [appO 1 (([] ++ [mtx r q.vw w]).map mV)]) = S33c p w G1.length ([] ++ [mtx r q.vw w]) ((0 + 1 : Nat) : Int) (G1 ++ [appO 1 (([] ++ [mtx r q.vw w]).map mV)]) := fun x hx => by rw [hx]
      refine Eq.trans ?_ (e _ hw2)
      kernel_rfl
  · obtain ⟨ht1, ht2⟩ := ht h0i
    have ht3 : G1[t]? = some (appO 1 (((p.fSubs.take i).map fun q => mtx r q.vw w).map mV)) := by rw [p1.2 t (lt_of_getElem? ht2)]; exact ht2
    refine Ops.one' 6 (fun h0 e0 => app_r (T := T) (g := .nil) h0 88 69 t 1 ti69 .nonfull mV ((p.fSubs.take i).map fun q => mtx r q.vw w) [mtx r q.vw w] (((p.fSubs.take i).map fun q => mtx r q.vw w) ++ [mtx r q.vw w]) happ (by kernel_rfl) (by kernel_rfl) (by kernel_rfl) (by kernel_rfl) (fun _ => rfl) (hq_of (g := G1) (e0.trans (by kernel_rfl)) ht3)) (by kernel_rfl) (by kernel_rfl) ?_
    refine Ops.seg' 1 7 (by kernel_rfl) ?_
    refine Ops.done (by kernel_rfl) ?_
    refine blkH.n ?_
    refine seqH.n ?_
    refine Ht.forget [1, 2, 4, 5, 6, 8, 43, 44, 45] (Ht.st (σ' := S33c p w G1.length (((p.fSubs.take i).map fun q => mtx r q.vw w) ++ [mtx r q.vw w]) ((i : Int) : Int) (G1.set t .dead ++ [appO 1 ((((p.fSubs.take i).map fun q => mtx r q.vw w) ++ [mtx r q.vw w]).map mV)])) (by kernel_rfl) ?_)
    refine Ht.region (hxR hg (n + 1)) (by kernel_rfl) ?_
    refine Ops.seg' 2 2 (by kernel_rfl) ?_
    refine Ops.done (by kernel_rfl) ?_
    refine ⟨p.fSubs.length - (i + 1), by omega, i + 1, G1.set t .dead ++ [appO 1 ((((p.fSubs.take i).map fun q => mtx r q.vw w) ++ [mtx r q.vw w]).map mV)], G1.length, rfl, hi, ((hG.trans p1).set ht1 _).trans (Pre.app _ _), fun _ => ⟨Nat.le_trans hG.1 (by omega), ?_⟩, ?_⟩
    · rw [htk, List.getElem?_append_right (by simp)]; simp
    · rw [htk]
      have e : ∀ x : Int, x = ((i + 1 : Nat) : Int) → S33c p w G1.length (((p.fSubs.take i).map fun q => mtx r q.vw w) ++ [mtx r q.vw w]) x (G1.set t .dead ++ [appO 1 ((((p.fSubs.take i).map fun q => mtx r q.vw w) ++ [mtx r q.vw w]).map mV)]) = S33c p w G1.length (((p.fSubs.take i).map fun q => mtx r q.vw w) ++ [mtx r q.vw w]) ((i + 1 : Nat) : Int) (G1.set t .dead ++ [appO 1 ((((p.fSubs.take i).map fun q => mtx r q.vw w) ++ [mtx r q.vw w]).map mV)]) := fun x hx => by rw [hx]
      refine Eq.trans ?_ (e _ hw2)
      kernel_rfl
theorem mkM_row {N i : Nat} (f : Nat → Nat → Bool) (hi : i < N) : (mkM N f)[i]? = some ((List.range N).map fun j => f i j) := by
  simp [mkM, List.getElem?_range hi]
theorem mkM_congr {N : Nat} {f g : Nat → Nat → Bool} (h : ∀ i j, i < N → j < N → f i j = g i j) : mkM N f = mkM N g := by
  unfold mkM
  refine List.map_congr_left fun i hi => List.map_congr_left fun j hj => ?_
  exact h i j (List.mem_range.1 hi) (List.mem_range.1 hj)
theorem mkM_set {N i j : Nat} (f : Nat → Nat → Bool) (hi : i < N) (hj : j < N) (v : Bool) : (mkM N f).set i (((List.range N).map fun b => f i b).set j v) = mkM N fun a b => if a = i ∧ b = j then v else f a b := by
  refine List.ext_getElem (by simp [mkM]) fun a h1 h2 => ?_
  have ha : a < N := by simpa [mkM] using h2
  rw [List.getElem_set]
  by_cases e : i = a
  · subst e
    rw [if_pos rfl]
    refine List.ext_getElem (by simp [mkM]) fun b g1 g2 => ?_
    rw [List.getElem_set]
    simp only [mkM, List.getElem_map, List.getElem_range, true_and]
    by_cases e2 : j = b
    · subst e2; simp
    · rw [if_neg e2, if_neg (fun h => e2 h.symm)]
  · rw [if_neg e]
    simp only [mkM, List.getElem_map, List.getElem_range]
    refine List.map_congr_left fun b _ => ?_
    rw [if_neg (fun h => e h.1.symm)]
theorem Tab.upd {h : List AObj} {q i : Nat} {rows : Tb} {r : List Bool} (ht : Tab h q rows) (hi : i < rows.length) (hl : r.length = rows.length) : Tab (h.set (q + 1 + i) (bO r)) q (rows.set i r) := by
  have hlt : q + 1 + i < h.length := by
    obtain ⟨r0, h0⟩ : ∃ r0, rows[i]? = some r0 := ⟨_, List.getElem?_eq_getElem hi⟩
    exact lt_of_getElem? (ht.2 i r0 h0).2
  refine ⟨?_, fun t r1 h1 => ?_⟩
  · rw [List.getElem?_set_ne (by omega), List.length_set]; exact ht.1
  · rw [List.length_set]
    by_cases e : i = t
    · subst e
      rw [List.getElem?_set_self hi] at h1
      cases h1
      exact ⟨hl, List.getElem?_set_self hlt⟩
    · rw [List.getElem?_set_ne e] at h1
      obtain ⟨g1, g2⟩ := ht.2 t r1 h1
      exact ⟨g1, by rw [List.getElem?_set_ne (by omega)]; exact g2⟩
theorem zM_mk (N : Nat) : zM N = mkM N fun _ _ => false := rfl
theorem CallT.of_eq {DR : Prop} {P : Program} {f : FuncId} {ds ds' : List D} {h h' : List AObj} {Q : D → List AObj → Prop} (e1 : ds = ds') (e2 : h = h') (hc : CallT DR P f ds' h' Q) : CallT DR P f ds h Q := by rw [e1, e2]; exact hc
def MQ33 (rows : Tb) : Post := fun e σ => (e = .normal ∨ e = .ret) ∧ ∃ d, resultsD T σ (resOf Proofs.Tryd.prog 33) = some d ∧ frz σ.heap 15 d = some (mV rows)
theorem end33 {r : Nat} (hg : Good False Proofs.Tryd.prog (ER r)) (n : Nat) (q N : Nat) (rows : Tb) (G : List AObj) (ht : Tab G q rows) (hl : rows.length = N) :
    Ht False Proofs.Tryd.prog (cR A33f) (Sm 252 [(6, sN q N)] G) (MQ33 rows) := by
  subst hl
  refine Ht.seq (by kernel_rfl) ?_
  refine Ht.region (hxR hg n) (by kernel_rfl) ?_
  refine Ops.seg' 2 2 (by kernel_rfl) ?_
  refine Ops.done (by kernel_rfl) ?_
  refine seqH.n ?_
  refine Ht.ret (by kernel_rfl) ?_
  exact ⟨.inr rfl, sN q rows.length, by kernel_rfl, frz_tab ht 13⟩
noncomputable abbrev K33 : Code := cL (cR (cL A33f))
abbrev S33k (p : S24) (w : List Int) (t : Nat) (xs : List Tb) (G : List AObj) : St := Sm 252 [(1, .v (vP eI w)), (2, .ptr 0 0), (4, .v nilS), (5, dI (w.length : Int)), (6, sN 1 (w.length + 1)), (8, appF .nil t (xs.map mV)), (57, dI p.fKind)] G
theorem disp33 {r : Nat} (hg : Good False Proofs.Tryd.prog (ER r)) (n : Nat) (p : S24) (w : List Int) (t : Nat) (xs : List Tb) (G : List AObj) (hb : G[0]? = some (boxP p)) {Q : Post}
    (h : Ht False Proofs.Tryd.prog K33 (S33k p w t xs G) (blkH 4 (seqH False Proofs.Tryd.prog (cR A33f) Q))) : Ht False Proofs.Tryd.prog A33f (S33d w t xs G) Q := by
  refine Ht.seq (by kernel_rfl) ?_
  refine Ht.seq (by kernel_rfl) ?_
  refine Ht.region (hxR hg n) (by kernel_rfl) ?_
  refine Ops.seg' 1 1 (by kernel_rfl) ?_
  refine Ops.one' 2 (fun h0 e0 => ldc (i := ti3) (h := h0) (r := 0) (off := 0) (cs := cV p) (d := dI p.fKind) (hq_of (g := G) (e0.trans (by kernel_rfl)) hb) (by rfl)) (by kernel_rfl) (by kernel_rfl) ?_
  refine Ops.done (by kernel_rfl) ?_
  refine seqH.n ?_
  refine Ht.block 4 (by kernel_rfl) ?_
  refine Ht.forget [1, 2, 4, 5, 6, 8, 57] (Ht.st (σ' := S33k p w t xs G) (by kernel_rfl) h)
theorem kind1 {r : Nat} (hg : Good False Proofs.Tryd.prog (ER r)) (n : Nat) (p : S24) (w : List Int) (t : Nat) (xs : List Tb) (G : List AObj) (hw0 : w.length ≤ 10000) (hk : p.fKind = 1) :
    Ht False Proofs.Tryd.prog K33 (S33k p w t xs G) (blkH 4 (seqH False Proofs.Tryd.prog (cR A33f) (MQ33 (idM (w.length + 1))))) := by
  refine Ht.seq (by kernel_rfl) ?_
  refine Ht.region (hxR hg n) (by kernel_rfl) ?_
  refine Ops.seg' 2 2 (by kernel_rfl) ?_
  refine Ops.done (by kernel_rfl) ?_
  refine seqH.n ?_
  refine Ht.cond (p.fKind == 1) (by kernel_rfl) (by kernel_rfl) (fun hc => ?_) (fun hc => by rw [hk] at hc; exact nomatch hc)
  refine Ht.seq (by kernel_rfl) ?_
  refine Ht.regionCall' (hxR hg n) 1 (t := 142) (args := [.tmp 141]) (Qc := fun d h' => ∃ q, d = sN q (w.length + 1) ∧ G.length ≤ q ∧ Tab h' q (idM (w.length + 1)) ∧ Pre G h') (by kernel_rfl) is53 ?_
  refine OpsU.seg' 1 1 (by kernel_rfl) ?_
  refine OpsU.done ⟨CallT.of_eq (by kernel_rfl) (by kernel_rfl) (call53 n w.length hw0 G), fun d h' hd => ?_⟩
  obtain ⟨q, rfl, h1, h2, h3⟩ := hd
  refine Ops.seg' 1 3 (by kernel_rfl) ?_
  refine Ops.done (by kernel_rfl) ?_
  refine seqH.n ?_
  refine Ht.ret (by kernel_rfl) ?_
  have hl : (idM (w.length + 1)).length = w.length + 1 := (idM_sq _).1
  refine ⟨.inr rfl, sN q (w.length + 1), by kernel_rfl, ?_⟩
  have h4 := frz_tab h2 13
  rw [hl] at h4
  exact h4
end Go.Abs
