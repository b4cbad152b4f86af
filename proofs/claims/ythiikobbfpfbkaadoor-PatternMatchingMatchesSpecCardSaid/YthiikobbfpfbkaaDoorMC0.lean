import Derived.Test.YthiikobbfpfbkaaDoorAbsHC
import Derived.Test.YthiikobbfpfbkaaDoorAbsV
import Derived.Test.YthiikobbfpfbkaaDoorWF1
namespace Go.Abs
open Go.Sort Go.Proofs
set_option linter.unusedVariables false
set_option maxRecDepth 100000
set_option maxHeartbeats 2000000
def Sm (n : Nat) (l : List (Nat × D)) (h : List AObj) : St := ⟨(List.range n).map fun i => (l.lookup i).getD .undef, h⟩
theorem seqH.x {DR : Prop} {P : Program} {b : Code} {Q : Post} {id : Nat} {σ : St} (h : Q (.exit id) σ) : seqH DR P b Q (.exit id) σ := h
theorem seqH.r {DR : Prop} {P : Program} {b : Code} {Q : Post} {σ : St} (h : Q .ret σ) : seqH DR P b Q .ret σ := h
theorem blkH.r {id : Nat} {Q : Post} {σ : St} (h : Q .ret σ) : blkH id Q .ret σ := h
theorem blkH.n {id : Nat} {Q : Post} {σ : St} (h : Q .normal σ) : blkH id Q .normal σ := h
theorem Ht.st {DR : Prop} {P : Program} {c : Code} {σ σ' : St} {Q : Post} (e : σ = σ') (h : Ht DR P c σ' Q) : Ht DR P c σ Q := by rw [e]; exact h
noncomputable def XM (n : Nat) : Cx := ⟨{ E with rowM := false, pureF := fun f => E.pureF f && !(f == 33 || f == 53 || f == 55) }, run Proofs.Tryd.prog E n, ⟨fun _ => [], fun _ => [], fun _ => []⟩, [], n⟩
theorem hxM (n : Nat) : Hx False Proofs.Tryd.prog (XM n) := ⟨good.mixed, good.types, fun f ds h d h' hd => run_sound good n f ds h d h' hd⟩
abbrev sN (q N : Nat) : D := .osl q 0 N false
abbrev bO (r : List Bool) : AObj := .row 1 (r.map vB)
abbrev nilS : V := .sl .nil []
def mPc (q N i : Nat) : List D := (List.range N).map fun t => if t < i then sN (q + 1 + t) N else .v nilS
def mP (q N i : Nat) : AObj := .cells (mPc q N i)
theorem mPc_len (q N i : Nat) : (mPc q N i).length = N := by simp [mPc]
def mO (q N : Nat) : AObj := .cells ((List.range N).map fun t => sN (q + 1 + t) N)
theorem mP_full (q N : Nat) : mP q N N = mO q N := by
  unfold mP mPc mO
  congr 1
  refine List.map_congr_left fun t ht => ?_
  rw [if_pos (List.mem_range.1 ht)]
theorem mP_zero (q N : Nat) : AObj.cells (List.replicate N (.v nilS)) = mP q N 0 := by
  unfold mP mPc
  congr 1
  refine List.ext_getElem (by simp) fun i h1 h2 => ?_
  simp
theorem mP_set (q N i : Nat) (hi : i < N) : (mPc q N i).set i (sN (q + 1 + i) N) = mPc q N (i + 1) := by
  unfold mPc
  refine List.ext_getElem (by simp) fun j h1 h2 => ?_
  rw [List.getElem_set]
  simp only [List.getElem_map, List.getElem_range]
  by_cases h : i = j
  · subst h; rw [if_pos rfl, if_pos (by omega)]
  · rw [if_neg h]
    by_cases h3 : j < i
    · rw [if_pos h3, if_pos (by omega)]
    · rw [if_neg h3, if_neg (by omega)]
theorem mk69 (h : List AObj) {x : Int} {N : Nat} (hx : x = (N : Int)) (hN : N ≤ 100000) : makeSliceD T 69 h (dI x) (dI x) = some (sN h.length N, h ++ [.cells (List.replicate N (.v nilS))]) := by
  subst hx
  have hn : natOf (dI (N : Int)) = some N := by simp [natOf]
  have h1 : T 69 = some ti69 := rfl
  have h2 : T 67 = some ti67 := rfl
  unfold makeSliceD
  simp only [h1, hn, show ti69.kind = .slice 67 from rfl, h2]
  rw [if_pos ⟨Nat.le_refl _, by show N * 24 ≤ _; omega, by unfold maxLen; omega, by decide, rfl, rfl⟩]
  rfl
theorem mk67 (h : List AObj) {x : Int} {N : Nat} (hx : x = (N : Int)) (hN : N ≤ 100000) : makeSliceD T 67 h (dI x) (dI x) = some (sN h.length N, h ++ [bO (List.replicate N false)]) := by
  subst hx
  have hn : natOf (dI (N : Int)) = some N := by simp [natOf]
  have h1 : T 67 = some ti67 := rfl
  have h2 : T 4 = some ti4 := rfl
  unfold makeSliceD
  simp only [h1, hn, show ti67.kind = .slice 4 from rfl, h2]
  rw [if_pos ⟨Nat.le_refl _, by show N * 1 ≤ _; omega, by unfold maxLen; omega, by decide, rfl, rfl⟩]
  show some (_, h ++ [AObj.row 1 (List.replicate N (vB false))]) = _
  rw [bO, List.map_replicate]
theorem ixC {h : List AObj} {q N i : Nat} {cs : List D} {x : Int} (hq : h[q]? = some (.cells cs)) (hx : x = (i : Int)) (hi : i < N) : (indexAddrH T h 69 (D.unt (sN q N)) (dI x)).map (·, h) = some (.ptr q i, h) := by
  subst hx
  have hn : natOf (dI (i : Int)) = some i := by simp [natOf]
  have h1 : T 69 = some ti69 := rfl
  simp only [D.unt, indexAddrH, h1, show ti69.kind = .slice 67 from rfl, hn, if_pos hi, show sizeT T 67 = some 1 from rfl, hq, Option.map_some, Nat.zero_add]
theorem ixR {h : List AObj} {r N i : Nat} {b : List Bool} {x : Int} (hq : h[r]? = some (bO b)) (hx : x = (i : Int)) (hi : i < N) : (indexAddrH T h 67 (D.unt (sN r N)) (dI x)).map (·, h) = some (.eptr r i 0, h) := by
  subst hx
  have hn : natOf (dI (i : Int)) = some i := by simp [natOf]
  have h1 : T 67 = some ti67 := rfl
  simp only [D.unt, indexAddrH, h1, show ti67.kind = .slice 4 from rfl, hn, if_pos hi, show sizeT T 4 = some 1 from rfl, hq, if_true, Option.map_some, Nat.zero_add]
theorem ldC {h : List AObj} {q i : Nat} {cs : List D} {d : D} (hq : h[q]? = some (.cells cs)) (hd : cs[i]? = some d) : (loadD ti67 h (.ptr q i)).map (·, h) = some (d, h) := by
  have hi := lt_of_getElem? hd
  have hc : cut cs i ti67.size = some [d] := by
    show (if i + 1 ≤ cs.length then some ((cs.drop i).take 1) else none) = _
    rw [if_pos (by omega)]
    rw [List.drop_eq_getElem_cons hi]
    rw [List.getElem?_eq_getElem hi] at hd
    simp [Option.some.inj hd]
  simp only [loadD, hq, hc, Option.bind_some]
  rfl
theorem ldR {h : List AObj} {r i : Nat} {b : List Bool} {x : Bool} (hq : h[r]? = some (bO b)) (hx : b[i]? = some x) : (loadD ti4 h (.eptr r i 0)).map (·, h) = some (dB x, h) := by
  have hx' : (b.map vB)[i]? = some (vB x) := by rw [List.getElem?_map, hx]; rfl
  simp only [loadD, hq, hx']
  rfl
theorem stC {h : List AObj} {q i : Nat} {cs : List D} {r N : Nat} (hq : h[q]? = some (.cells cs)) (hi : i < cs.length) : (storeD ti67 h (.ptr q i) (sN r N)).map (U, ·) = some (U, h.set q (.cells (cs.set i (sN r N)))) := by
  have hs : splice cs i [sN r N] = some (cs.set i (sN r N)) := by
    unfold splice
    rw [if_pos (by simp; omega)]
    rw [List.set_eq_take_append_cons_drop, if_pos hi]
    simp
  have h1 : ((sN r N).solid && (sN r N).cells.length == ti67.size) = true := rfl
  have h2 : splice cs i (sN r N).cells = some (cs.set i (sN r N)) := hs
  simp only [storeD, h1, if_true, hq, h2, Option.map_some]
theorem stR {h : List AObj} {r i : Nat} {b : List Bool} {x : Bool} (hq : h[r]? = some (bO b)) (hi : i < b.length) : (storeD ti4 h (.eptr r i 0) (dB x)).map (U, ·) = some (U, h.set r (bO (b.set i x))) := by
  have hx' : (b.map vB)[i]? = some (vB b[i]) := by rw [List.getElem?_map, List.getElem?_eq_getElem hi]; rfl
  have h1 : ((D.v (vB x)).solid && (D.v (vB x)).cells.length == ti4.size) = true := rfl
  have h2 : storeV (vB b[i]) (vB x) 0 = some (vB x) := rfl
  have h3 : ((vB x).cells.length == 1 && (vB x).solid) = true := rfl
  simp only [storeD, h1, if_true, hq, hx', h2, h3, Option.map_some, bO, List.map_set]
def Tab (h : List AObj) (q : Nat) (rows : List (List Bool)) : Prop := h[q]? = some (mO q rows.length) ∧ ∀ (i : Nat) r, rows[i]? = some r → r.length = rows.length ∧ h[q + 1 + i]? = some (bO r)
def Pre (H h : List AObj) : Prop := H.length ≤ h.length ∧ ∀ (r : Nat), r < H.length → h[r]? = H[r]?
theorem Pre.refl (H : List AObj) : Pre H H := ⟨Nat.le_refl _, fun _ _ => rfl⟩
theorem Pre.trans {A B C : List AObj} (h : Pre A B) (g : Pre B C) : Pre A C := ⟨Nat.le_trans h.1 g.1, fun r hr => by rw [g.2 r (Nat.lt_of_lt_of_le hr h.1), h.2 r hr]⟩
theorem Pre.app (H l : List AObj) : Pre H (H ++ l) := ⟨by simp, fun r hr => List.getElem?_append_left hr⟩
theorem Pre.set {H h : List AObj} (hp : Pre H h) {r : Nat} (hr : H.length ≤ r) (o : AObj) : Pre H (h.set r o) := ⟨by rw [List.length_set]; exact hp.1, fun i hi => by rw [List.getElem?_set_ne (by omega)]; exact hp.2 i hi⟩
theorem Tab.pre {H h : List AObj} {q : Nat} {rows : List (List Bool)} (hl : Tab H q rows) (hp : Pre H h) : Tab h q rows := by
  refine ⟨by rw [hp.2 q (lt_of_getElem? hl.1)]; exact hl.1, fun i r hi => ?_⟩
  obtain ⟨h1, h2⟩ := hl.2 i r hi
  exact ⟨h1, by rw [hp.2 _ (lt_of_getElem? h2)]; exact h2⟩
def idR (N i : Nat) : List Bool := (List.range N).map fun j => decide (i = j)
def idM (N : Nat) : List (List Bool) := (List.range N).map (idR N)
noncomputable def C53 : Code := bodyOf Proofs.Tryd.prog 53
def MQ (f t : Nat) (H : List AObj) (rows : List (List Bool)) : Post := fun e σ => (e = .normal ∨ e = .ret) ∧ ∃ q, resultsD T σ (resOf Proofs.Tryd.prog f) = some (sN q rows.length) ∧ H.length ≤ q ∧ Tab σ.heap q rows ∧ Pre H σ.heap
def InvI (H : List AObj) (N i : Nat) (G : List AObj) : Prop := G.length = H.length + 1 + i ∧ G[H.length]? = some (mP H.length N i) ∧ (∀ t, t < i → G[H.length + 1 + t]? = some (bO (idR N t))) ∧ Pre H G
theorem id53 (n m : Nat) (hm : m ≤ 10000) (H : List AObj) : Ht False Proofs.Tryd.prog C53 (startIn Proofs.Tryd.prog 53 [dI (m : Int)] H) (MQ 53 2 H (idM (m + 1))) := by
  have hw : w64 ((m : Int) + 1) = ((m + 1 : Nat) : Int) := by rw [w64_id ⟨by omega, by omega⟩]; omega
  refine Ht.seq (by kernel_rfl) ?_
  refine Ht.region (hxM n) (by kernel_rfl) ?_
  refine Ops.seg' 1 1 (by kernel_rfl) ?_
  refine Ops.done (by kernel_rfl) ?_
  refine seqH.n ?_
  refine Ht.seq (by kernel_rfl) ?_
  refine Ht.region (hxM n) (by kernel_rfl) ?_
  refine Ops.seg' 2 2 (by kernel_rfl) ?_
  refine Ops.one' 3 (fun h0 e0 => mk69 h0 (N := m + 1) hw (by omega)) (by kernel_rfl) (by kernel_rfl) ?_
  refine Ops.seg' 1 4 (by kernel_rfl) ?_
  refine Ops.done (by kernel_rfl) ?_
  refine seqH.n ?_
  refine Ht.seq (by kernel_rfl) ?_
  refine Ht.forget [0, 3] (Ht.st (σ' := Sm 27 [(0, dI (m : Int)), (3, sN H.length (m + 1))] (H ++ [.cells (List.replicate (m + 1) (.v nilS))])) (by kernel_rfl) ?_)
  refine Ht.seq (by kernel_rfl) ?_
  refine Ht.region (hxM n) (by kernel_rfl) ?_
  refine Ops.seg' 3 3 (by kernel_rfl) ?_
  refine Ops.done (by kernel_rfl) ?_
  refine seqH.n ?_
  refine Ht.block 0 (by kernel_rfl) ?_
  refine Ht.loop (fun k σ => ∃ (i : Nat) (G : List AObj), k = m + 1 - i ∧ i ≤ m + 1 ∧ InvI H (m + 1) i G ∧ Abs.forget [0, 3, 9, 10] σ = Sm 27 [(0, dI (m : Int)), (3, sN H.length (m + 1)), (9, dI ((m + 1 : Nat) : Int)), (10, dI (i : Int))] G) (m + 1) (by kernel_rfl) ⟨0, H ++ [.cells (List.replicate (m + 1) (.v nilS))], rfl, Nat.zero_le _, ?_, by kernel_rfl⟩ ?_
  · refine ⟨by simp, ?_, fun t ht => by omega, Pre.app _ _⟩
    rw [mP_zero, List.getElem?_append_right (Nat.le_refl _), Nat.sub_self]
    rfl
  rintro k σ ⟨i, G, rfl, hi, hG, hσ⟩
  refine Ht.forget [0, 3, 9, 10] (Ht.st hσ ?_)
  clear hσ
  refine Ht.seq (by kernel_rfl) ?_
  refine Ht.region (hxM n) (by kernel_rfl) ?_
  refine Ops.seg' 1 1 (by kernel_rfl) ?_
  refine Ops.done (by kernel_rfl) ?_
  refine seqH.n ?_
  refine Ht.seq (by kernel_rfl) ?_
  refine Ht.cond (decide ((i : Int) < ((m + 1 : Nat) : Int))) (by kernel_rfl) (by kernel_rfl) (fun hc => ?_) (fun hc => ?_)
  case refine_2 =>
    have hc := of_decide_eq_false hc
    have hi2 : i = m + 1 := by omega
    subst hi2
    refine Ht.exit (id := 0) (by kernel_rfl) ?_
    show Ht False Proofs.Tryd.prog (cR (cR (cR C53))) _ (MQ 53 2 H (idM (m + 1)))
    refine Ht.seq (by kernel_rfl) ?_
    refine Ht.region (hxM n) (by kernel_rfl) ?_
    refine Ops.seg' 2 2 (by kernel_rfl) ?_
    refine Ops.done (by kernel_rfl) ?_
    refine seqH.n ?_
    refine Ht.ret (by kernel_rfl) ?_
    obtain ⟨g1, g2, g3, g4⟩ := hG
    have hlen : (idM (m + 1)).length = m + 1 := by simp [idM]
    refine ⟨.inr rfl, H.length, ?_, Nat.le_refl _, ⟨?_, fun i r hir => ?_⟩, g4⟩
    · rw [hlen]; kernel_rfl
    · rw [hlen, ← mP_full]; exact g2
    · have hi : i < m + 1 := by rw [← hlen]; exact lt_of_getElem? hir
      have hr : r = idR (m + 1) i := by
        simp only [idM, List.getElem?_map, List.getElem?_range hi, Option.map_some, Option.some.injEq] at hir
        exact hir.symm
      subst hr
      exact ⟨by rw [hlen]; simp [idR], g3 i hi⟩
  have hc := of_decide_eq_true hc
  have hi : i < m + 1 := by omega
  obtain ⟨g1, g2, g3, g4⟩ := hG
  have hw2 : w64 ((i : Int) + 1) = ((i + 1 : Nat) : Int) := by rw [w64_id ⟨by omega, by omega⟩]; omega
  have hql : H.length < G.length := by omega
  refine Ht.skip (by kernel_rfl) ?_
  refine seqH.n ?_
  refine Ht.seq (by kernel_rfl) ?_
  refine Ht.block 1 (by kernel_rfl) ?_
  refine Ht.seq (by kernel_rfl) ?_
  refine Ht.region (hxM n) (by kernel_rfl) ?_
  refine Ops.seg' 2 2 (by kernel_rfl) ?_
  refine Ops.done (by kernel_rfl) ?_
  refine seqH.n ?_
  refine Ht.seq (by kernel_rfl) ?_
  refine Ht.region (hxM n) (by kernel_rfl) ?_
  refine Ops.seg' 4 4 (by kernel_rfl) ?_
  refine Ops.one' 5 (fun h0 e0 => mk67 h0 (N := m + 1) hw (by omega)) (by kernel_rfl) (by kernel_rfl) ?_
  let z : List Bool := List.replicate (m + 1) false
  have k1 : (G ++ [bO z])[H.length]? = some (.cells (mPc H.length (m + 1) i)) := by rw [List.getElem?_append_left hql]; exact g2
  refine Ops.one' 6 (fun h0 e0 => ixC (h := h0) (q := H.length) (N := m + 1) (i := i) (hq_of (g := G ++ [bO z]) (e0.trans (by kernel_rfl)) k1) rfl hi) (by kernel_rfl) (by kernel_rfl) ?_
  refine Ops.one' 7 (fun h0 e0 => stC (h := h0) (q := H.length) (i := i) (r := G.length) (N := m + 1) (hq_of (g := G ++ [bO z]) (e0.trans (by kernel_rfl)) k1) (by rw [mPc_len]; exact hi)) (by kernel_rfl) (by kernel_rfl) ?_
  refine Ops.done (by kernel_rfl) ?_
  refine seqH.n ?_
  refine Ht.forget [0, 3, 4, 9, 10] (Ht.st (σ' := Sm 27 [(0, dI (m : Int)), (3, sN H.length (m + 1)), (4, dI (i : Int)), (9, dI ((m + 1 : Nat) : Int)), (10, dI (i : Int))] ((G ++ [bO z]).set H.length (.cells ((mPc H.length (m + 1) i).set i (sN G.length (m + 1)))))) (by kernel_rfl) ?_)
  rw [g1, mP_set H.length (m + 1) i hi]
  obtain ⟨G2, hG2⟩ : ∃ G2, (G ++ [bO z]).set H.length (.cells (mPc H.length (m + 1) (i + 1))) = G2 := ⟨_, rfl⟩
  rw [hG2]
  have l2 : G2.length = H.length + 1 + (i + 1) := by rw [← hG2]; simp; omega
  have c2 : G2[H.length]? = some (.cells (mPc H.length (m + 1) (i + 1))) := by rw [← hG2]; exact List.getElem?_set_self (by simp; omega)
  have r2 : G2[H.length + 1 + i]? = some (bO z) := by
    rw [← hG2, List.getElem?_set_ne (by omega), ← g1, List.getElem?_append_right (Nat.le_refl _), Nat.sub_self]; rfl
  have o2 : ∀ t, t < i → G2[H.length + 1 + t]? = some (bO (idR (m + 1) t)) := fun t ht => by
    rw [← hG2, List.getElem?_set_ne (by omega), List.getElem?_append_left (by omega)]; exact g3 t ht
  have p2 : Pre H G2 := by rw [← hG2]; exact (g4.trans (Pre.app G _)).set (Nat.le_refl _) _
  clear hG2 k1 g2 g3
  refine Ht.region (hxM n) (by kernel_rfl) ?_
  refine Ops.seg' 2 2 (by kernel_rfl) ?_
  refine Ops.one' 3 (fun h0 e0 => ixC (h := h0) (q := H.length) (N := m + 1) (i := i) (hq_of (g := G2) (e0.trans (by kernel_rfl)) c2) rfl hi) (by kernel_rfl) (by kernel_rfl) ?_
  refine Ops.one' 4 (fun h0 e0 => ldC (h := h0) (q := H.length) (i := i) (d := sN (H.length + 1 + i) (m + 1)) (hq_of (g := G2) (e0.trans (by kernel_rfl)) c2) (by simp [mPc, hi])) (by kernel_rfl) (by kernel_rfl) ?_
  refine Ops.seg' 1 5 (by kernel_rfl) ?_
  refine Ops.one' 6 (fun h0 e0 => ixR (h := h0) (r := H.length + 1 + i) (N := m + 1) (i := i) (hq_of (g := G2) (e0.trans (by kernel_rfl)) r2) rfl hi) (by kernel_rfl) (by kernel_rfl) ?_
  refine Ops.one' 7 (fun h0 e0 => stR (h := h0) (r := H.length + 1 + i) (i := i) (x := true) (hq_of (g := G2) (e0.trans (by kernel_rfl)) r2) (by simp [z]; exact hi)) (by kernel_rfl) (by kernel_rfl) ?_
  refine Ops.done (by kernel_rfl) ?_
  refine blkH.n ?_
  refine seqH.n ?_
  refine Ht.forget [0, 3, 9, 10] (Ht.st (σ' := Sm 27 [(0, dI (m : Int)), (3, sN H.length (m + 1)), (9, dI ((m + 1 : Nat) : Int)), (10, dI (i : Int))] (G2.set (H.length + 1 + i) (bO (z.set i true)))) (by kernel_rfl) ?_)
  have hz : z.set i true = idR (m + 1) i := by
    refine List.ext_getElem (by simp [z, idR]) fun j h1 h2 => ?_
    rw [List.getElem_set]
    simp only [idR, List.getElem_map, List.getElem_range]
    by_cases h : i = j
    · simp [h]
    · simp [h, z]
  rw [hz]
  refine Ht.region (hxM n) (by kernel_rfl) ?_
  refine Ops.seg' 2 2 (by kernel_rfl) ?_
  refine Ops.done (by kernel_rfl) ?_
  refine ⟨m + 1 - (i + 1), by omega, i + 1, G2.set (H.length + 1 + i) (bO (idR (m + 1) i)), rfl, hi, ⟨by rw [List.length_set]; exact l2, ?_, fun t ht => ?_, p2.set (by omega) _⟩, ?_⟩
  · rw [List.getElem?_set_ne (by omega)]; exact c2
  · by_cases h : t = i
    · subst h
      exact List.getElem?_set_self (by omega)
    · rw [List.getElem?_set_ne (by omega)]; exact o2 t (by omega)
  · have e : ∀ a : Int, a = ((i + 1 : Nat) : Int) → Sm 27 [(0, dI (m : Int)), (3, sN H.length (m + 1)), (9, dI ((m + 1 : Nat) : Int)), (10, dI a)] (G2.set (H.length + 1 + i) (bO (idR (m + 1) i))) = Sm 27 [(0, dI (m : Int)), (3, sN H.length (m + 1)), (9, dI ((m + 1 : Nat) : Int)), (10, dI ((i + 1 : Nat) : Int))] (G2.set (H.length + 1 + i) (bO (idR (m + 1) i))) := fun a ha => by rw [ha]
    refine Eq.trans ?_ (e _ hw2)
    kernel_rfl
def rV (r : List Bool) : V := .sl .plain (r.map vB)
def mV (b : List (List Bool)) : V := .sl .plain (b.map rV)
theorem ixV69 {h : List AObj} {b : List (List Bool)} {k : Nat} {r : List Bool} {x : Int} (hr : b[k]? = some r) (hx : x = (k : Int)) : (indexAddrH T h 69 (D.unt (.v (mV b))) (dI x)).map (·, h) = some (.vptr [rV r], h) := by
  subst hx
  have hn : natOf (dI (k : Int)) = some k := by simp [natOf]
  have h1 : T 69 = some ti69 := rfl
  have h2 : (b.map rV)[k]? = some (rV r) := by rw [List.getElem?_map, hr]; rfl
  show ((indexAddrD T 69 (.v (mV b)) (dI (k : Int))).map (·, h)) = _
  simp only [indexAddrD, h1, show ti69.kind = .slice 67 from rfl, mV, hn, show sizeT T 67 = some 1 from rfl, h2]
  rfl
theorem ixV67 {h : List AObj} {r : List Bool} {j : Nat} {y : Bool} {x : Int} (hr : r[j]? = some y) (hx : x = (j : Int)) : (indexAddrH T h 67 (D.unt (.v (rV r))) (dI x)).map (·, h) = some (.vptr [vB y], h) := by
  subst hx
  have hn : natOf (dI (j : Int)) = some j := by simp [natOf]
  have h1 : T 67 = some ti67 := rfl
  have h2 : (r.map vB)[j]? = some (vB y) := by rw [List.getElem?_map, hr]; rfl
  show ((indexAddrD T 67 (.v (rV r)) (dI (j : Int))).map (·, h)) = _
  simp only [indexAddrD, h1, show ti67.kind = .slice 4 from rfl, rV, hn, show sizeT T 4 = some 1 from rfl, h2]
  rfl
def cell (a : List (List Bool)) (i j : Nat) : Bool := ((a.getD i []).getD j false)
def Sq (N : Nat) (a : List (List Bool)) : Prop := a.length = N ∧ ∀ r ∈ a, r.length = N
theorem Sq.row {N : Nat} {a : List (List Bool)} (h : Sq N a) {i : Nat} (hi : i < N) : ∃ r, a[i]? = some r ∧ r.length = N ∧ ∀ j, j < N → r[j]? = some (cell a i j) := by
  have hl : i < a.length := by rw [h.1]; exact hi
  refine ⟨a[i], List.getElem?_eq_getElem hl, h.2 _ (List.getElem_mem hl), fun j hj => ?_⟩
  have hjl : j < a[i].length := by rw [h.2 _ (List.getElem_mem hl)]; exact hj
  rw [List.getElem?_eq_getElem hjl]
  simp [cell, List.getD, hl, hjl]
def pr (a b : List (List Bool)) (N i k j : Nat) : List Bool := (List.range N).map fun t => ((List.range k).any fun u => cell a i u && cell b u t) || (decide (t < j) && (cell a i k && cell b k t))
def thenM (a b : List (List Bool)) (N : Nat) : List (List Bool) := (List.range N).map fun i => pr a b N i N 0
theorem pr_len (a b : List (List Bool)) (N i k j : Nat) : (pr a b N i k j).length = N := by simp [pr]
theorem pr_next (a b : List (List Bool)) (N i k : Nat) : pr a b N i k N = pr a b N i (k + 1) 0 := by
  unfold pr
  refine List.map_congr_left fun t ht => ?_
  have ht := List.mem_range.1 ht
  simp [List.range_succ, ht]
theorem pr_skip (a b : List (List Bool)) (N i k : Nat) (h : cell a i k = false) : pr a b N i k 0 = pr a b N i (k + 1) 0 := by
  unfold pr
  refine List.map_congr_left fun t ht => ?_
  simp [List.range_succ, h]
theorem pr_get (a b : List (List Bool)) (N i k j t : Nat) (ht : t < N) : (pr a b N i k j)[t]? = some (((List.range k).any fun u => cell a i u && cell b u t) || (decide (t < j) && (cell a i k && cell b k t))) := by
  simp [pr, ht]
theorem pr_set (a b : List (List Bool)) (N i k j : Nat) (hj : j < N) (h : cell a i k = true) (x : Bool) (hx : (pr a b N i k j)[j]? = some x) : (pr a b N i k j).set j (x || cell b k j) = pr a b N i k (j + 1) := by
  rw [pr_get a b N i k j j hj] at hx
  have hx := Option.some.inj hx
  refine List.ext_getElem? fun t => ?_
  by_cases ht : t < N
  · rw [List.getElem?_set, pr_get a b N i k (j + 1) t ht]
    by_cases e : j = t
    · subst e
      rw [if_pos rfl, if_pos (by rw [pr_len]; exact hj), ← hx]
      simp [h]
    · rw [if_neg e, pr_get a b N i k j t ht]
      have : decide (t < j) = decide (t < j + 1) := by
        rw [Bool.eq_iff_iff]; simp; omega
      rw [this]
  · rw [List.getElem?_eq_none (by rw [List.length_set, pr_len]; omega), List.getElem?_eq_none (by rw [pr_len]; omega)]
theorem pr_zero (a b : List (List Bool)) (N i : Nat) : List.replicate N false = pr a b N i 0 0 := by
  refine List.ext_getElem (by simp [pr]) fun t h1 h2 => ?_
  simp [pr]
theorem thenM_sq (a b : List (List Bool)) (N : Nat) : Sq N (thenM a b N) := by
  refine ⟨by simp [thenM], fun r hr => ?_⟩
  obtain ⟨i, _, rfl⟩ := List.mem_map.1 hr
  exact pr_len _ _ _ _ _ _
noncomputable def C55 : Code := bodyOf Proofs.Tryd.prog 55
noncomputable abbrev D55a : Code := cL (cL (cR (cL (cR (cR C55)))))
noncomputable abbrev D55b : Code := cL (cR (cR D55a))
noncomputable abbrev D55c : Code := cL (cR (cR (cR (cL D55b))))
noncomputable abbrev D55d : Code := cL (cR (cR (cL D55c)))
noncomputable abbrev D55e : Code := cR (cL (cR (cR (cL D55d))))
structure InvT (H : List AObj) (qm N i : Nat) (a b : List (List Bool)) (row : List Bool) (G : List AObj) : Prop where
  len : G.length = H.length + 1 + (i + 1)
  out : G[H.length]? = some (.cells (mPc H.length N (i + 1)))
  old : ∀ t, t < i → G[H.length + 1 + t]? = some (bO (pr a b N t N 0))
  now : G[H.length + 1 + i]? = some (bO row)
  pre : Pre H G
theorem InvT.set {H : List AObj} {qm N i : Nat} {a b : List (List Bool)} {row : List Bool} {G : List AObj} (h : InvT H qm N i a b row G) (row' : List Bool) : InvT H qm N i a b row' (G.set (H.length + 1 + i) (bO row')) :=
  ⟨by rw [List.length_set]; exact h.len, by rw [List.getElem?_set_ne (by omega)]; exact h.out, fun t ht => by rw [List.getElem?_set_ne (by omega)]; exact h.old t ht, List.getElem?_set_self (by rw [h.len]; omega), h.pre.set (by omega) _⟩
abbrev S55e (qm q N i k : Nat) (b : List (List Bool)) (j : Int) (G : List AObj) : St := Sm 66 [(0, sN qm N), (1, .v (mV b)), (5, sN q N), (6, dI (i : Int)), (7, dI (k : Int)), (13, dI (N : Int)), (14, dI (i : Int)), (24, dI (N : Int)), (25, dI (k : Int)), (36, dI (N : Int)), (37, dI j)] G
abbrev S55f (qm q N i k : Nat) (b : List (List Bool)) (j : Int) (G : List AObj) : St := Sm 66 [(0, sN qm N), (1, .v (mV b)), (5, sN q N), (6, dI (i : Int)), (7, dI (k : Int)), (8, dI j), (13, dI (N : Int)), (14, dI (i : Int)), (24, dI (N : Int)), (25, dI (k : Int)), (36, dI (N : Int)), (37, dI j)] G
theorem inner55 (n : Nat) (H : List AObj) (qm N i k : Nat) (hN : N ≤ 10001) (hi : i < N) (hk : k < N) (a b : List (List Bool)) (hb : Sq N b) (ha : cell a i k = true) {Q : Post}
    (hQ : ∀ G σ, InvT H qm N i a b (pr a b N i (k + 1) 0) G → Abs.forget [0, 1, 5, 6, 13, 14, 24, 25] σ = Sm 66 [(0, sN qm N), (1, .v (mV b)), (5, sN H.length N), (6, dI (i : Int)), (13, dI (N : Int)), (14, dI (i : Int)), (24, dI (N : Int)), (25, dI (k : Int))] G → Q (.exit 4) σ)
    (G : List AObj) (hG : InvT H qm N i a b (pr a b N i k 0) G) : Ht False Proofs.Tryd.prog (cL D55e) (S55e qm H.length N i k b 0 G) Q := by
  refine Ht.loop (fun f σ => ∃ (j : Nat) (G : List AObj), f = N - j ∧ j ≤ N ∧ InvT H qm N i a b (pr a b N i k j) G ∧ Abs.forget [0, 1, 5, 6, 7, 13, 14, 24, 25, 36, 37] σ = S55e qm H.length N i k b (j : Int) G) N (by kernel_rfl) ⟨0, G, rfl, Nat.zero_le _, hG, by kernel_rfl⟩ ?_
  clear hG G
  rintro f σ ⟨j, G, rfl, hj, hG, hσ⟩
  refine Ht.forget [0, 1, 5, 6, 7, 13, 14, 24, 25, 36, 37] (Ht.st hσ ?_)
  clear hσ
  refine Ht.seq (by kernel_rfl) ?_
  refine Ht.region (hxM n) (by kernel_rfl) ?_
  refine Ops.seg' 1 1 (by kernel_rfl) ?_
  refine Ops.done (by kernel_rfl) ?_
  refine seqH.n ?_
  refine Ht.seq (by kernel_rfl) ?_
  refine Ht.cond (decide ((j : Int) < (N : Int))) (by kernel_rfl) (by kernel_rfl) (fun hc => ?_) (fun hc => ?_)
  case refine_2 =>
    have hc := of_decide_eq_false hc
    have hj2 : j = N := by omega
    subst hj2
    refine Ht.exit (id := 4) (by kernel_rfl) ?_
    show Q (.exit 4) _
    rw [pr_next] at hG
    exact hQ G _ hG (by kernel_rfl)
  have hc := of_decide_eq_true hc
  have hj : j < N := by omega
  have hw : w64 ((j : Int) + 1) = ((j + 1 : Nat) : Int) := by rw [w64_id ⟨by omega, by omega⟩]; omega
  obtain ⟨x0, hx0⟩ : ∃ x, (pr a b N i k j)[j]? = some x := ⟨_, pr_get a b N i k j j hj⟩
  obtain ⟨rb, hrb, hrl, hrc⟩ := hb.row hk
  have hcell : (mPc H.length N (i + 1))[i]? = some (sN (H.length + 1 + i) N) := by simp [mPc, hi]
  refine Ht.skip (by kernel_rfl) ?_
  refine seqH.n ?_
  refine Ht.seq (by kernel_rfl) ?_
  refine Ht.block 5 (by kernel_rfl) ?_
  refine Ht.seq (by kernel_rfl) ?_
  refine Ht.region (hxM n) (by kernel_rfl) ?_
  refine Ops.seg' 2 2 (by kernel_rfl) ?_
  refine Ops.done (by kernel_rfl) ?_
  refine seqH.n ?_
  refine Ht.forget [0, 1, 5, 6, 7, 8, 13, 14, 24, 25, 36, 37] (Ht.st (σ' := S55f qm H.length N i k b (j : Int) G) (by kernel_rfl) ?_)
  refine Ht.region (hxM n) (by kernel_rfl) ?_
  refine Ops.seg' 2 2 (by kernel_rfl) ?_
  refine Ops.one' 3 (fun h0 e0 => ixC (h := h0) (q := H.length) (N := N) (i := i) (hq_of (g := G) (e0.trans (by kernel_rfl)) hG.out) rfl hi) (by kernel_rfl) (by kernel_rfl) ?_
  refine Ops.one' 4 (fun h0 e0 => ldC (h := h0) (q := H.length) (i := i) (hq_of (g := G) (e0.trans (by kernel_rfl)) hG.out) hcell) (by kernel_rfl) (by kernel_rfl) ?_
  refine Ops.seg' 3 7 (by kernel_rfl) ?_
  refine Ops.one' 8 (fun h0 e0 => ixC (h := h0) (q := H.length) (N := N) (i := i) (hq_of (g := G) (e0.trans (by kernel_rfl)) hG.out) rfl hi) (by kernel_rfl) (by kernel_rfl) ?_
  refine Ops.one' 9 (fun h0 e0 => ldC (h := h0) (q := H.length) (i := i) (hq_of (g := G) (e0.trans (by kernel_rfl)) hG.out) hcell) (by kernel_rfl) (by kernel_rfl) ?_
  refine Ops.seg' 1 10 (by kernel_rfl) ?_
  refine Ops.one' 11 (fun h0 e0 => ixR (h := h0) (r := H.length + 1 + i) (N := N) (i := j) (hq_of (g := G) (e0.trans (by kernel_rfl)) hG.now) rfl hj) (by kernel_rfl) (by kernel_rfl) ?_
  refine Ops.one' 12 (fun h0 e0 => ldR (h := h0) (r := H.length + 1 + i) (i := j) (hq_of (g := G) (e0.trans (by kernel_rfl)) hG.now) hx0) (by kernel_rfl) (by kernel_rfl) ?_
  have fin : ∀ (y : Bool), (x0 || cell b k j) = y → lpH (fun f σ => ∃ (j : Nat) (G : List AObj), f = N - j ∧ j ≤ N ∧ InvT H qm N i a b (pr a b N i k j) G ∧ Abs.forget [0, 1, 5, 6, 7, 13, 14, 24, 25, 36, 37] σ = S55e qm H.length N i k b (j : Int) G) (N - j) Q .normal (S55e qm H.length N i k b (w64 ((j : Int) + 1)) (G.set (H.length + 1 + i) (bO ((pr a b N i k j).set j y)))) := by
    intro y hy
    refine ⟨N - (j + 1), by omega, j + 1, G.set (H.length + 1 + i) (bO (pr a b N i k (j + 1))), rfl, hj, hG.set _, ?_⟩
    rw [← hy, pr_set a b N i k j hj ha x0 hx0, hw]
    kernel_rfl
  cases x0 with
  | true =>
    refine Ops.seg' 9 21 (by kernel_rfl) ?_
    refine Ops.one' 22 (fun h0 e0 => ixR (h := h0) (r := H.length + 1 + i) (N := N) (i := j) (hq_of (g := G) (e0.trans (by kernel_rfl)) hG.now) rfl hj) (by kernel_rfl) (by kernel_rfl) ?_
    refine Ops.one' 23 (fun h0 e0 => stR (h := h0) (r := H.length + 1 + i) (i := j) (x := true) (hq_of (g := G) (e0.trans (by kernel_rfl)) hG.now) (by rw [pr_len]; exact hj)) (by kernel_rfl) (by kernel_rfl) ?_
    refine Ops.done (by kernel_rfl) ?_
    refine blkH.n ?_
    refine seqH.n ?_
    refine Ht.forget [0, 1, 5, 6, 7, 13, 14, 24, 25, 36, 37] (Ht.st (σ' := S55e qm H.length N i k b (j : Int) (G.set (H.length + 1 + i) (bO ((pr a b N i k j).set j true)))) (by kernel_rfl) ?_)
    refine Ht.region (hxM n) (by kernel_rfl) ?_
    refine Ops.seg' 2 2 (by kernel_rfl) ?_
    refine Ops.done (by kernel_rfl) ?_
    obtain ⟨f, h1, j', G', h2, h3, h4, h5⟩ := fin true rfl
    exact ⟨f, h1, j', G', h2, h3, h4, Eq.trans (by kernel_rfl) h5⟩
  | false =>
    refine Ops.seg' 3 15 (by kernel_rfl) ?_
    refine Ops.one' 16 (fun h0 e0 => ixV69 (h := h0) (k := k) hrb rfl) (by kernel_rfl) (by kernel_rfl) ?_
    refine Ops.seg' 2 18 (by kernel_rfl) ?_
    refine Ops.one' 19 (fun h0 e0 => ixV67 (h := h0) (j := j) (hrc j hj) rfl) (by kernel_rfl) (by kernel_rfl) ?_
    refine Ops.seg' 2 21 (by kernel_rfl) ?_
    refine Ops.one' 22 (fun h0 e0 => ixR (h := h0) (r := H.length + 1 + i) (N := N) (i := j) (hq_of (g := G) (e0.trans (by kernel_rfl)) hG.now) rfl hj) (by kernel_rfl) (by kernel_rfl) ?_
    refine Ops.one' 23 (fun h0 e0 => stR (h := h0) (r := H.length + 1 + i) (i := j) (x := cell b k j) (hq_of (g := G) (e0.trans (by kernel_rfl)) hG.now) (by rw [pr_len]; exact hj)) (by kernel_rfl) (by kernel_rfl) ?_
    refine Ops.done (by kernel_rfl) ?_
    refine blkH.n ?_
    refine seqH.n ?_
    refine Ht.forget [0, 1, 5, 6, 7, 13, 14, 24, 25, 36, 37] (Ht.st (σ' := S55e qm H.length N i k b (j : Int) (G.set (H.length + 1 + i) (bO ((pr a b N i k j).set j (cell b k j))))) (by kernel_rfl) ?_)
    refine Ht.region (hxM n) (by kernel_rfl) ?_
    refine Ops.seg' 2 2 (by kernel_rfl) ?_
    refine Ops.done (by kernel_rfl) ?_
    obtain ⟨f, h1, j', G', h2, h3, h4, h5⟩ := fin (cell b k j) rfl
    exact ⟨f, h1, j', G', h2, h3, h4, Eq.trans (by kernel_rfl) h5⟩
abbrev S55c (qm q N i : Nat) (b : List (List Bool)) (k : Int) (G : List AObj) : St := Sm 66 [(0, sN qm N), (1, .v (mV b)), (5, sN q N), (6, dI (i : Int)), (13, dI (N : Int)), (14, dI (i : Int)), (24, dI (N : Int)), (25, dI k)] G
theorem mid55 (n : Nat) (H : List AObj) (qm N i : Nat) (hN : N ≤ 10001) (hi : i < N) (a b : List (List Bool)) (ha : Sq N a) (hb : Sq N b) (hm : Tab H qm a) {Q : Post}
    (hQ : ∀ G σ, InvT H qm N i a b (pr a b N i N 0) G → Abs.forget [0, 1, 5, 13, 14] σ = Sm 66 [(0, sN qm N), (1, .v (mV b)), (5, sN H.length N), (13, dI (N : Int)), (14, dI (i : Int))] G → Q (.exit 2) σ)
    (G : List AObj) (hG : InvT H qm N i a b (pr a b N i 0 0) G) : Ht False Proofs.Tryd.prog D55c (S55c qm H.length N i b 0 G) Q := by
  refine Ht.loop (fun f σ => ∃ (k : Nat) (G : List AObj), f = N - k ∧ k ≤ N ∧ InvT H qm N i a b (pr a b N i k 0) G ∧ Abs.forget [0, 1, 5, 6, 13, 14, 24, 25] σ = S55c qm H.length N i b (k : Int) G) N (by kernel_rfl) ⟨0, G, rfl, Nat.zero_le _, hG, by kernel_rfl⟩ ?_
  clear hG G
  rintro f σ ⟨k, G, rfl, hk, hG, hσ⟩
  refine Ht.forget [0, 1, 5, 6, 13, 14, 24, 25] (Ht.st hσ ?_)
  clear hσ
  refine Ht.seq (by kernel_rfl) ?_
  refine Ht.region (hxM n) (by kernel_rfl) ?_
  refine Ops.seg' 1 1 (by kernel_rfl) ?_
  refine Ops.done (by kernel_rfl) ?_
  refine seqH.n ?_
  refine Ht.seq (by kernel_rfl) ?_
  refine Ht.cond (decide ((k : Int) < (N : Int))) (by kernel_rfl) (by kernel_rfl) (fun hc => ?_) (fun hc => ?_)
  case refine_2 =>
    have hc := of_decide_eq_false hc
    have hk2 : k = N := by omega
    subst hk2
    refine Ht.exit (id := 2) (by kernel_rfl) ?_
    show Q (.exit 2) _
    exact hQ G _ hG (by kernel_rfl)
  have hc := of_decide_eq_true hc
  have hk : k < N := by omega
  have hw : w64 ((k : Int) + 1) = ((k + 1 : Nat) : Int) := by rw [w64_id ⟨by omega, by omega⟩]; omega
  obtain ⟨ra, hra, hrl, hrc⟩ := ha.row hi
  have hmt := hm.pre hG.pre
  have ho : G[qm]? = some (.cells ((List.range a.length).map fun t => sN (qm + 1 + t) a.length)) := hmt.1
  rw [ha.1] at ho
  have hrow : G[qm + 1 + i]? = some (bO ra) := (hmt.2 i ra hra).2
  have next : ∀ (G' : List AObj), InvT H qm N i a b (pr a b N i (k + 1) 0) G' → lpH (fun f σ => ∃ (k : Nat) (G : List AObj), f = N - k ∧ k ≤ N ∧ InvT H qm N i a b (pr a b N i k 0) G ∧ Abs.forget [0, 1, 5, 6, 13, 14, 24, 25] σ = S55c qm H.length N i b (k : Int) G) (N - k) Q .normal (S55c qm H.length N i b (w64 ((k : Int) + 1)) G') := by
    intro G' hG'
    refine ⟨N - (k + 1), by omega, k + 1, G', rfl, hk, hG', ?_⟩
    rw [hw]
    kernel_rfl
  refine Ht.skip (by kernel_rfl) ?_
  refine seqH.n ?_
  refine Ht.seq (by kernel_rfl) ?_
  refine Ht.block 3 (by kernel_rfl) ?_
  refine Ht.seq (by kernel_rfl) ?_
  refine Ht.region (hxM n) (by kernel_rfl) ?_
  refine Ops.seg' 2 2 (by kernel_rfl) ?_
  refine Ops.done (by kernel_rfl) ?_
  refine seqH.n ?_
  refine Ht.seq (by kernel_rfl) ?_
  refine Ht.region (hxM n) (by kernel_rfl) ?_
  refine Ops.seg' 2 2 (by kernel_rfl) ?_
  refine Ops.one' 3 (fun h0 e0 => ixC (h := h0) (q := qm) (N := N) (i := i) (hq_of (g := G) (e0.trans (by kernel_rfl)) ho) rfl hi) (by kernel_rfl) (by kernel_rfl) ?_
  refine Ops.one' 4 (fun h0 e0 => ldC (h := h0) (q := qm) (i := i) (d := sN (qm + 1 + i) N) (hq_of (g := G) (e0.trans (by kernel_rfl)) ho) (by simp [hi])) (by kernel_rfl) (by kernel_rfl) ?_
  refine Ops.seg' 1 5 (by kernel_rfl) ?_
  refine Ops.one' 6 (fun h0 e0 => ixR (h := h0) (r := qm + 1 + i) (N := N) (i := k) (hq_of (g := G) (e0.trans (by kernel_rfl)) hrow) rfl hk) (by kernel_rfl) (by kernel_rfl) ?_
  refine Ops.one' 7 (fun h0 e0 => ldR (h := h0) (r := qm + 1 + i) (i := k) (hq_of (g := G) (e0.trans (by kernel_rfl)) hrow) (hrc k hk)) (by kernel_rfl) (by kernel_rfl) ?_
  refine Ops.done (by kernel_rfl) ?_
  refine seqH.n ?_
  refine Ht.cond (cell a i k) (by kernel_rfl) (by kernel_rfl) (fun hc => ?_) (fun hc => ?_)
  · refine Ht.forget [0, 1, 5, 6, 7, 13, 14, 24, 25] (Ht.st (σ' := Sm 66 [(0, sN qm N), (1, .v (mV b)), (5, sN H.length N), (6, dI (i : Int)), (7, dI (k : Int)), (13, dI (N : Int)), (14, dI (i : Int)), (24, dI (N : Int)), (25, dI (k : Int))] G) (by kernel_rfl) ?_)
    refine Ht.seq (by kernel_rfl) ?_
    refine Ht.region (hxM n) (by kernel_rfl) ?_
    refine Ops.seg' 3 3 (by kernel_rfl) ?_
    refine Ops.done (by kernel_rfl) ?_
    refine seqH.n ?_
    refine Ht.block 4 (by kernel_rfl) ?_
    refine Ht.forget [0, 1, 5, 6, 7, 13, 14, 24, 25, 36, 37] (Ht.st (σ' := S55e qm H.length N i k b 0 G) (by kernel_rfl) ?_)
    refine inner55 n H qm N i k hN hi hk a b hb hc (fun G' σ h1 h2 => ?_) G hG
    refine blkH.x ?_
    refine blkH.n ?_
    refine seqH.n ?_
    refine Ht.forget [0, 1, 5, 6, 13, 14, 24, 25] (Ht.st h2 ?_)
    refine Ht.region (hxM n) (by kernel_rfl) ?_
    refine Ops.seg' 2 2 (by kernel_rfl) ?_
    refine Ops.done (by kernel_rfl) ?_
    obtain ⟨f, h3, k', G'', h4, h5, h6, h7⟩ := next G' h1
    exact ⟨f, h3, k', G'', h4, h5, h6, Eq.trans (by kernel_rfl) h7⟩
  · refine Ht.skip (by kernel_rfl) ?_
    refine blkH.n ?_
    refine seqH.n ?_
    rw [pr_skip a b N i k hc] at hG
    refine Ht.forget [0, 1, 5, 6, 13, 14, 24, 25] (Ht.st (σ' := S55c qm H.length N i b (k : Int) G) (by kernel_rfl) ?_)
    refine Ht.region (hxM n) (by kernel_rfl) ?_
    refine Ops.seg' 2 2 (by kernel_rfl) ?_
    refine Ops.done (by kernel_rfl) ?_
    obtain ⟨f, h1, k', G', h2, h3, h4, h5⟩ := next G hG
    exact ⟨f, h1, k', G', h2, h3, h4, Eq.trans (by kernel_rfl) h5⟩
structure InvO (H : List AObj) (N i : Nat) (a b : List (List Bool)) (G : List AObj) : Prop where
  len : G.length = H.length + 1 + i
  out : G[H.length]? = some (.cells (mPc H.length N i))
  old : ∀ t, t < i → G[H.length + 1 + t]? = some (bO (pr a b N t N 0))
  pre : Pre H G
abbrev S55a (qm q N : Nat) (b : List (List Bool)) (i : Int) (G : List AObj) : St := Sm 66 [(0, sN qm N), (1, .v (mV b)), (5, sN q N), (13, dI (N : Int)), (14, dI i)] G
theorem then55 (n : Nat) (H : List AObj) (qm N : Nat) (hN : N ≤ 10001) (a b : List (List Bool)) (ha : Sq N a) (hb : Sq N b) (hm : Tab H qm a) : Ht False Proofs.Tryd.prog C55 (startIn Proofs.Tryd.prog 55 [sN qm N, .v (mV b)] H) (MQ 55 4 H (thenM a b N)) := by
  have hqH : qm < H.length := lt_of_getElem? hm.1
  refine Ht.seq (by kernel_rfl) ?_
  refine Ht.region (hxM n) (by kernel_rfl) ?_
  refine Ops.seg' 1 1 (by kernel_rfl) ?_
  refine Ops.done (by kernel_rfl) ?_
  refine seqH.n ?_
  refine Ht.seq (by kernel_rfl) ?_
  refine Ht.region (hxM n) (by kernel_rfl) ?_
  refine Ops.seg' 2 2 (by kernel_rfl) ?_
  refine Ops.one' 3 (fun h0 e0 => mk69 h0 (x := (N : Int)) (N := N) rfl (by omega)) (by kernel_rfl) (by kernel_rfl) ?_
  refine Ops.seg' 1 4 (by kernel_rfl) ?_
  refine Ops.done (by kernel_rfl) ?_
  refine seqH.n ?_
  refine Ht.seq (by kernel_rfl) ?_
  refine Ht.forget [0, 1, 5] (Ht.st (σ' := Sm 66 [(0, sN qm N), (1, .v (mV b)), (5, sN H.length N)] (H ++ [.cells (List.replicate N (.v nilS))])) (by kernel_rfl) ?_)
  refine Ht.seq (by kernel_rfl) ?_
  refine Ht.region (hxM n) (by kernel_rfl) ?_
  refine Ops.seg' 3 3 (by kernel_rfl) ?_
  refine Ops.done (by kernel_rfl) ?_
  refine seqH.n ?_
  refine Ht.block 0 (by kernel_rfl) ?_
  refine Ht.loop (fun f σ => ∃ (i : Nat) (G : List AObj), f = N - i ∧ i ≤ N ∧ InvO H N i a b G ∧ Abs.forget [0, 1, 5, 13, 14] σ = S55a qm H.length N b (i : Int) G) N (by kernel_rfl) ⟨0, H ++ [.cells (List.replicate N (.v nilS))], rfl, Nat.zero_le _, ?_, by kernel_rfl⟩ ?_
  · refine ⟨by simp, ?_, fun t ht => by omega, Pre.app _ _⟩
    have := mP_zero H.length N
    unfold mP at this
    rw [this, List.getElem?_append_right (Nat.le_refl _), Nat.sub_self]
    rfl
  rintro f σ ⟨i, G, rfl, hi, hG, hσ⟩
  refine Ht.forget [0, 1, 5, 13, 14] (Ht.st hσ ?_)
  clear hσ
  refine Ht.seq (by kernel_rfl) ?_
  refine Ht.region (hxM n) (by kernel_rfl) ?_
  refine Ops.seg' 1 1 (by kernel_rfl) ?_
  refine Ops.done (by kernel_rfl) ?_
  refine seqH.n ?_
  refine Ht.seq (by kernel_rfl) ?_
  refine Ht.cond (decide ((i : Int) < (N : Int))) (by kernel_rfl) (by kernel_rfl) (fun hc => ?_) (fun hc => ?_)
  case refine_2 =>
    have hc := of_decide_eq_false hc
    have hi2 : i = N := by omega
    subst hi2
    refine Ht.exit (id := 0) (by kernel_rfl) ?_
    show Ht False Proofs.Tryd.prog (cR (cR (cR C55))) _ (MQ 55 4 H (thenM a b i))
    refine Ht.seq (by kernel_rfl) ?_
    refine Ht.region (hxM n) (by kernel_rfl) ?_
    refine Ops.seg' 2 2 (by kernel_rfl) ?_
    refine Ops.done (by kernel_rfl) ?_
    refine seqH.n ?_
    refine Ht.ret (by kernel_rfl) ?_
    have hlen : (thenM a b i).length = i := by simp [thenM]
    refine ⟨.inr rfl, H.length, ?_, Nat.le_refl _, ⟨?_, fun t r htr => ?_⟩, hG.pre⟩
    · rw [hlen]; kernel_rfl
    · rw [hlen, ← mP_full]; exact hG.out
    · have hi : t < i := by rw [← hlen]; exact lt_of_getElem? htr
      have hr : r = pr a b i t i 0 := by
        simp only [thenM, List.getElem?_map, List.getElem?_range hi, Option.map_some, Option.some.injEq] at htr
        exact htr.symm
      subst hr
      exact ⟨by rw [hlen, pr_len], hG.old t hi⟩
  have hc := of_decide_eq_true hc
  have hi : i < N := by omega
  have hw2 : w64 ((i : Int) + 1) = ((i + 1 : Nat) : Int) := by rw [w64_id ⟨by omega, by omega⟩]; omega
  have g1 := hG.len
  have hql : H.length < G.length := by omega
  refine Ht.skip (by kernel_rfl) ?_
  refine seqH.n ?_
  refine Ht.seq (by kernel_rfl) ?_
  refine Ht.block 1 (by kernel_rfl) ?_
  refine Ht.seq (by kernel_rfl) ?_
  refine Ht.region (hxM n) (by kernel_rfl) ?_
  refine Ops.seg' 2 2 (by kernel_rfl) ?_
  refine Ops.done (by kernel_rfl) ?_
  refine seqH.n ?_
  refine Ht.seq (by kernel_rfl) ?_
  refine Ht.region (hxM n) (by kernel_rfl) ?_
  refine Ops.seg' 4 4 (by kernel_rfl) ?_
  refine Ops.one' 5 (fun h0 e0 => mk67 h0 (x := (N : Int)) (N := N) rfl (by omega)) (by kernel_rfl) (by kernel_rfl) ?_
  let z : List Bool := List.replicate N false
  have k1 : (G ++ [bO z])[H.length]? = some (.cells (mPc H.length N i)) := by rw [List.getElem?_append_left hql]; exact hG.out
  refine Ops.one' 6 (fun h0 e0 => ixC (h := h0) (q := H.length) (N := N) (i := i) (hq_of (g := G ++ [bO z]) (e0.trans (by kernel_rfl)) k1) rfl hi) (by kernel_rfl) (by kernel_rfl) ?_
  refine Ops.one' 7 (fun h0 e0 => stC (h := h0) (q := H.length) (i := i) (r := G.length) (N := N) (hq_of (g := G ++ [bO z]) (e0.trans (by kernel_rfl)) k1) (by rw [mPc_len]; exact hi)) (by kernel_rfl) (by kernel_rfl) ?_
  refine Ops.done (by kernel_rfl) ?_
  refine seqH.n ?_
  refine Ht.forget [0, 1, 5, 6, 13, 14] (Ht.st (σ' := Sm 66 [(0, sN qm N), (1, .v (mV b)), (5, sN H.length N), (6, dI (i : Int)), (13, dI (N : Int)), (14, dI (i : Int))] ((G ++ [bO z]).set H.length (.cells ((mPc H.length N i).set i (sN G.length N))))) (by kernel_rfl) ?_)
  rw [g1, mP_set H.length N i hi]
  obtain ⟨G2, hG2⟩ : ∃ G2, (G ++ [bO z]).set H.length (.cells (mPc H.length N (i + 1))) = G2 := ⟨_, rfl⟩
  rw [hG2]
  have hI : InvT H qm N i a b (pr a b N i 0 0) G2 := by
    rw [← hG2]
    refine ⟨by simp; omega, List.getElem?_set_self (by simp; omega), fun t ht => ?_, ?_, (hG.pre.trans (Pre.app G _)).set (Nat.le_refl _) _⟩
    · rw [List.getElem?_set_ne (by omega), List.getElem?_append_left (by omega)]; exact hG.old t ht
    · rw [List.getElem?_set_ne (by omega), ← g1, List.getElem?_append_right (Nat.le_refl _), Nat.sub_self, ← pr_zero]; rfl
  clear hG2 k1 hG g1 hql
  refine Ht.seq (by kernel_rfl) ?_
  refine Ht.region (hxM n) (by kernel_rfl) ?_
  refine Ops.seg' 3 3 (by kernel_rfl) ?_
  refine Ops.done (by kernel_rfl) ?_
  refine seqH.n ?_
  refine Ht.block 2 (by kernel_rfl) ?_
  refine Ht.forget [0, 1, 5, 6, 13, 14, 24, 25] (Ht.st (σ' := S55c qm H.length N i b 0 G2) (by kernel_rfl) ?_)
  refine mid55 n H qm N i hN hi a b ha hb hm (fun G' σ h1 h2 => ?_) G2 hI
  refine blkH.x ?_
  refine blkH.n ?_
  refine seqH.n ?_
  refine Ht.forget [0, 1, 5, 13, 14] (Ht.st h2 ?_)
  refine Ht.region (hxM n) (by kernel_rfl) ?_
  refine Ops.seg' 2 2 (by kernel_rfl) ?_
  refine Ops.done (by kernel_rfl) ?_
  refine ⟨N - (i + 1), by omega, i + 1, G', rfl, hi, ⟨h1.len, h1.out, fun t ht => ?_, h1.pre⟩, ?_⟩
  · by_cases h : t = i
    · subst h; exact h1.now
    · exact h1.old t (by omega)
  · have e : ∀ x : Int, x = ((i + 1 : Nat) : Int) → S55a qm H.length N b x G' = S55a qm H.length N b ((i + 1 : Nat) : Int) G' := fun x hx => by rw [hx]
    refine Eq.trans ?_ (e _ hw2)
    kernel_rfl
theorem f62_eq (m : Nat) (a b : Int) : f62 m a b = some (decide (a < b)) := by
  have h : ∀ x : Int, f68 m x = some false := fun x => by unfold f68; simp
  unfold f62
  rw [h, bnd_some', cnd_false, bnd_some']
  unfold f62_r2 f62_r1
  rw [Bool.false_or]
theorem half (i j : Nat) (hi : i ≤ 100000) (hj : j ≤ 100000) : w64 (Int.fdiv (IntKind.u64.wrap (w64 ((i : Int) + (j : Int)))) (2 ^ (min (1 : Int).toNat IntKind.u64.bits))) = (((i + j) / 2 : Nat) : Int) := by
  have e1 : w64 ((i : Int) + (j : Int)) = ((i + j : Nat) : Int) := by rw [w64_id ⟨by omega, by omega⟩]; omega
  have e2 : IntKind.u64.wrap ((i + j : Nat) : Int) = ((i + j : Nat) : Int) := by
    unfold IntKind.wrap
    simp [IntKind.bits, IntKind.signed]
    omega
  have e3 : (2 : Int) ^ (min (1 : Int).toNat IntKind.u64.bits) = 2 := by rfl
  rw [e1, e2, e3]
  have e4 : Int.fdiv ((i + j : Nat) : Int) 2 = (((i + j) / 2 : Nat) : Int) := by
    rw [Int.fdiv_eq_ediv_of_nonneg _ (by omega)]; omega
  rw [e4, w64_id ⟨by omega, by omega⟩]
theorem bs_loop (m : Nat) (l : List Int) (x : Int) (hl : l.length ≤ 100000) (hs : l.Pairwise (· < ·)) : ∀ (M i j : Nat), i ≤ j → j ≤ l.length → j - i < M → (∀ t y, t < i → l[t]? = some y → y < x) → (∀ t y, j ≤ t → l[t]? = some y → ¬ y < x) →
    ∃ k : Nat, k ≤ l.length ∧ iter (fun (y : Int × Int) => f54_B3 m l x y.1 y.2) M ((i : Int), (j : Int)) = some (.inr ((k : Int), (k : Int))) ∧ (∀ t y, t < k → l[t]? = some y → y < x) ∧ (∀ t y, k ≤ t → l[t]? = some y → ¬ y < x)
  | 0, _, _, _, _, h, _, _ => by omega
  | M + 1, i, j, hij, hj, hM, h1, h2 => by
    by_cases hlt : i < j
    · have hh := half i j (by omega) (by omega)
      have hhl : (i + j) / 2 < l.length := by omega
      obtain ⟨y, hy⟩ : ∃ y, l[(i + j) / 2]? = some y := ⟨_, List.getElem?_eq_getElem hhl⟩
      have hix : idx l (((i + j) / 2 : Nat) : Int) = some y := by
        unfold idx
        rw [if_pos (by omega), Int.toNat_natCast, hy]
      have sorted : ∀ (s t : Nat) (u v : Int), s < t → l[s]? = some u → l[t]? = some v → u < v := by
        intro s t u v hst hu hv
        have hsl := lt_of_getElem? hu; have htl := lt_of_getElem? hv
        rw [List.getElem?_eq_getElem hsl] at hu
        rw [List.getElem?_eq_getElem htl] at hv
        have := (List.pairwise_iff_getElem.1 hs) s t hsl htl hst
        rw [Option.some.inj hu, Option.some.inj hv] at this
        exact this
      have hw : w64 ((((i + j) / 2 : Nat) : Int) + 1) = (((i + j) / 2 + 1 : Nat) : Int) := by rw [w64_id ⟨by omega, by omega⟩]; omega
      by_cases hc : y < x
      · have hB : f54_B3 m l x (i : Int) (j : Int) = some (.nxt ((((i + j) / 2 + 1 : Nat) : Int), (j : Int))) := by
          unfold f54_B3
          rw [decide_eq_true (by omega), cnd_true, hh, hix, bnd_some', f62_eq, bnd_some', decide_eq_true hc, cnd_true, hw]
          rfl
        obtain ⟨k, g1, g2, g3, g4⟩ := bs_loop m l x hl hs M ((i + j) / 2 + 1) j (by omega) hj (by omega) (fun t u ht hu => by
          by_cases e : t = (i + j) / 2
          · subst e; rw [hy] at hu; cases hu; exact hc
          · have := sorted t ((i + j) / 2) u y (by omega) hu hy; omega) h2
        refine ⟨k, g1, ?_, g3, g4⟩
        unfold iter
        dsimp only
        rw [hB]
        exact g2
      · have hB : f54_B3 m l x (i : Int) (j : Int) = some (.nxt ((i : Int), (((i + j) / 2 : Nat) : Int))) := by
          unfold f54_B3
          rw [decide_eq_true (by omega), cnd_true, hh, hix, bnd_some', f62_eq, bnd_some', decide_eq_false hc, cnd_false]
          rfl
        obtain ⟨k, g1, g2, g3, g4⟩ := bs_loop m l x hl hs M i ((i + j) / 2) (by omega) (by omega) (by omega) h1 (fun t u ht hu => by
          by_cases e : t = (i + j) / 2
          · subst e; rw [hy] at hu; cases hu; exact hc
          · have := sorted ((i + j) / 2) t y u (by omega) hy hu; omega)
        refine ⟨k, g1, ?_, g3, g4⟩
        unfold iter
        dsimp only
        rw [hB]
        exact g2
    · have : i = j := by omega
      subst this
      refine ⟨i, hj, ?_, h1, h2⟩
      have hB : f54_B3 m l x (i : Int) (i : Int) = some (.brk ((i : Int), (i : Int))) := by
        unfold f54_B3
        rw [decide_eq_false (by omega), cnd_false]
      unfold iter
      dsimp only
      rw [hB]
theorem f54_eq (m : Nat) (l : List Int) (x : Int) (hl : l.length ≤ 100000) (hm : l.length < m) (hs : l.Pairwise (· < ·)) : ∃ k, f54 m l x = some (k, l.contains x) := by
  obtain ⟨k, g1, g2, g3, g4⟩ := bs_loop m l x hl hs m 0 l.length (Nat.zero_le _) (Nat.le_refl _) (by omega) (fun t y ht => by omega) (fun t y ht hy => by have := lt_of_getElem? hy; omega)
  have g2 : iter (fun (y : Int × Int) => f54_B3 m l x y.1 y.2) m (0, (l.length : Int)) = some (.inr ((k : Int), (k : Int))) := g2
  refine ⟨(k : Int), ?_⟩
  unfold f54
  rw [g2, brk_inr]
  have h63 : ∀ z : Int, f63 m z = some false := fun z => by unfold f63; simp
  rcases Nat.lt_or_ge k l.length with hk | hk
  · obtain ⟨y, hy⟩ : ∃ y, l[k]? = some y := ⟨_, List.getElem?_eq_getElem hk⟩
    have hix : idx l (k : Int) = some y := by simp [idx, hy]
    show (bnd (cnd (decide ((k : Int) < (l.length : Int))) (bnd (idx l (k : Int)) _) _) _) = _
    rw [decide_eq_true (by omega), cnd_true, hix, bnd_some', bnd_some']
    by_cases e : y = x
    · subst e
      rw [show (y == y) = true by simp, cnd_true, bnd_some']
      have : l.contains y = true := by simpa using List.mem_of_getElem? hy
      rw [this]; rfl
    · rw [show (y == x) = false by simpa using e, cnd_false, h63, bnd_some', cnd_false, bnd_some']
      have : l.contains x = false := by
        apply Classical.byContradiction
        intro h
        have h : x ∈ l := by simpa using h
        obtain ⟨t, ht, hxt⟩ := List.getElem_of_mem h
        have hxt' : l[t]? = some x := by rw [List.getElem?_eq_getElem ht, hxt]
        rcases Nat.lt_trichotomy t k with h | h | h
        · have := g3 t x h hxt'; omega
        · subst h; rw [hxt'] at hy; exact e (Option.some.inj hy).symm
        · have h1 := g4 k y (Nat.le_refl _) hy
          have h2 := (List.pairwise_iff_getElem.1 hs) k t hk ht h
          rw [List.getElem?_eq_getElem hk] at hy
          rw [Option.some.inj hy, hxt] at h2
          omega
      rw [this]; rfl
  · show (bnd (cnd (decide ((k : Int) < (l.length : Int))) (bnd (idx l (k : Int)) _) _) _) = _
    rw [decide_eq_false (by omega), cnd_false, bnd_some']
    have : l.contains x = false := by
      apply Classical.byContradiction
      intro h
      have h : x ∈ l := by simpa using h
      obtain ⟨t, ht, hxt⟩ := List.getElem_of_mem h
      have := g3 t x (by omega) (by rw [List.getElem?_eq_getElem ht, hxt])
      omega
    rw [this]; rfl
end Go.Abs
