import Derived.Test.YtmoiipfomcgomaaGreatDoorHD
import Derived.Test.YtmoiipfomcgomaaGreatDoorLE
import Derived.Test.YtmoiipfomcgomaaGreatDoorGC
namespace Go.Abs.Rd
open Go.Sort Go.Proofs
set_option linter.unusedVariables false
set_option maxRecDepth 100000
set_option maxHeartbeats 2000000
theorem _root_.Go.Abs.Ht.regionF {DR : Prop} {P : Program} {X : Cx} {c : Code} {σ : St} {Q : Post} (H : Hx DR P X) (hc : regionFar X.E σ c = true) (h : Ops X (opl c) 0 σ (Q .normal)) : Ht DR P c σ Q := .of_wp H (Wp.regionF hc h)
def outM (m : S29) (f : S31) : S29 × S31 := if isZ f = true then (⟨m.fStates, redW (m.fArcs.map outA), m.fFinals⟩, ⟨0, 0⟩) else (⟨0, [], []⟩, f)
theorem change22 (n : Nat) (hn : n = 2 * MO + 30) (m : S29) (f : S31) (hf : f45 MO m = some f) (hb : m.fArcs.length ≤ 5000) (hfin : m.fFinals.length ≤ 5000) :
  Ht False Proofs.Tryz.prog C22 (startIn Proofs.Tryz.prog 22 [.v (e29 m), .v (.fn 23)] []) (OQ (outM m f).1 (outM m f).2) := by
 refine Ht.sq (Ht.rg (hxO n) (Ops.sg 3 3 (Ops.dn (seqH.n (Ht.sq (Ht.sq (Ht.rg (hxO n) (Ops.sg 1 1 ?_))))))))
 refine Ops.on 2 (fun h0 e0 => call_ok (E' := (XO n).E) (h := h0) (by kernel_rfl) (Args.v (e29 m) (e29 m) (by kernel_rfl) Args.nil) (ok45 MO m f hf n (by omega))) ?_
 refine Ops.sg 2 4 (Ops.dn (seqH.n ?_))
 let mc : AObj := .cells [dI m.fStates, .v (vP e61 m.fArcs), .v (vP e52 m.fFinals)]
 refine Ht.forget [1, 2, 4, 5, 6] (Ht.st (σ' := Sm 45 [(1, .v (.fn 23)), (2, .ptr 0 0), (4, .ptr 1 0), (5, .ptr 2 0), (6, .ptr 3 0)] [mc, .cells zM3, .cells zF2, .cells [dI f.fCode, dI f.fIndex]]) (by kernel_rfl) (Ht.sq (Ht.rg (hxO n) (Ops.sg 3 3 (Ops.dn (seqH.n ?_))))))
 refine Ht.cond (!isZ f) (by kernel_rfl) (by kernel_rfl) (fun hc => ?_) (fun hc => ?_)
 ·have hz : ¬ isZ f = true := by simpa using hc
  unfold outM
  rw [if_neg hz]
  refine Ht.sq (Ht.regionF (hxO n) (by kernel_rfl) (Ops.sg 4 4 (Ops.dn (seqH.n (Ht.rt (seqH.r ?_))))))
  exact OQ.of (m := ⟨0, [], []⟩) (f := f) (by kernel_rfl) (by kernel_rfl) (cs := zM3) (a := .v (.agg [vI 0, .sl .nil [], .sl .nil []])) (by kernel_rfl) (by rfl) (by kernel_rfl) (by rfl)
 ·have hz : isZ f = true := by simpa using hc
  unfold outM
  rw [if_pos hz]
  have hcl : f46 MO m.fFinals = some m.fFinals := by
   unfold f46 app
   rw [if_pos ⟨by simp; omega, by simp; unfold maxLen; omega⟩]
   rfl
  refine Ht.sk (seqH.n (Ht.sq (Ht.rg (hxO n) (Ops.sg 4 4 ?_))))
  refine Ops.on 5 (fun h0 e0 => call_ok (E' := (XO n).E) (h := h0) (by kernel_rfl) (Args.v (vP e52 m.fFinals) ((eL e52) m.fFinals) (by kernel_rfl) Args.nil) (ok46 MO m.fFinals m.fFinals hcl n (by omega))) ?_
  refine Ops.sg 3 8 (Ops.dn (seqH.n (Ht.sq ?_)))
  refine Ht.forget [1, 2, 4, 5, 7] (Ht.st (σ' := Sm 45 [(1, .v (.fn 23)), (2, .ptr 0 0), (4, .ptr 1 0), (5, .ptr 2 0), (7, .ptr 4 0)] [mc, .cells zM3, .cells zF2, .cells [dI f.fCode, dI f.fIndex], .cells (mC m.fStates 0 [] m.fFinals)]) (by kernel_rfl) (Ht.sq (Ht.rg (hxO n) (Ops.sg 2 2 ?_))))
  refine Ops.on 3 (fun h0 e0 => len_r (T := T) h0 27 62 .plain e61 m.fArcs (by kernel_rfl)) ?_
  refine Ops.sg 1 4 (Ops.dn (seqH.n ?_))
  refine Ht.forget [1, 4, 5, 7, 24, 25, 26] (Ht.st (σ' := S22 m 0 [mc, .cells zM3, .cells zF2, .cells [dI f.fCode, dI f.fIndex], .cells (mC m.fStates 0 [] m.fFinals)]) (by kernel_rfl) ?_)
  exact change_loop n (by rw [hn]; omega) m hb (fun q G hG => change_end n (by rw [hn]; omega) m hb q G hG) _ ⟨rfl, rfl, rfl, fun h => absurd h (Nat.lt_irrefl _), Nat.le_refl _⟩
theorem e61_inj {a b : S61} (h : e61 a = e61 b) : a = b := by
 obtain ⟨a1, a2, a3, a4, a5⟩ := a
 obtain ⟨b1, b2, b3, b4, b5⟩ := b
 simp only [e61, V.agg.injEq, List.cons.injEq, V.int.injEq, true_and, and_true] at h
 obtain ⟨h1, h2, h3, h4, h5⟩ := h
 rw [h1, h2, h3, h4, h5]
theorem e52_inj {a b : S52} (h : e52 a = e52 b) : a = b := by
 obtain ⟨a1, a2⟩ := a
 obtain ⟨b1, b2⟩ := b
 simp only [e52, V.agg.injEq, List.cons.injEq, V.int.injEq, true_and, and_true] at h
 rw [h.1, h.2]
theorem map_inj' {α : Type} {e : α → V} (he : ∀ a b, e a = e b → a = b) : ∀ {a b : List α}, a.map e = b.map e → a = b
 | [], [], _ => rfl
 | [], _ :: _, h => by cases h
 | _ :: _, [], h => by cases h
 | x :: r, y :: s, h => by
  rw [List.map_cons, List.map_cons, List.cons.injEq] at h
  rw [he _ _ h.1, map_inj' he h.2]
theorem e29_inj {a b : S29} (h : e29 a = e29 b) : a = b := by
 obtain ⟨a1, a2, a3⟩ := a
 obtain ⟨b1, b2, b3⟩ := b
 simp only [e29, V.agg.injEq, List.cons.injEq, V.int.injEq, V.sl.injEq, true_and, and_true] at h
 obtain ⟨h1, h2, h3⟩ := h
 rw [h1, map_inj' (fun _ _ => e61_inj) h2, map_inj' (fun _ _ => e52_inj) h3]
def OkO (m : S29) : Prop := m.fArcs.length ≤ 5000 ∧ m.fFinals.length ≤ 5000
open Classical in
noncomputable def f22F (m : S29) : Option (S29 × S31) := if OkO m then (f45 MO m).map (outM m) else none
open Classical in
noncomputable def F22 (vs : List V) : Option V := if h : ∃ m : S29, vs = [e29 m, .fn 23] then (f22F (Classical.choose h)).map fun o => .tuple [e29 o.1, e31 o.2] else none
theorem F22_eq (m : S29) : F22 [e29 m, .fn 23] = (f22F m).map fun o => .tuple [e29 o.1, e31 o.2] := by
 have h : ∃ m' : S29, [e29 m, V.fn 23] = [e29 m', .fn 23] := ⟨m, rfl⟩
 unfold F22
 rw [dif_pos h]
 have hs := Classical.choose_spec h
 generalize Classical.choose h = m' at hs
 rw [e29_inj (List.cons.inj hs).1]
theorem is22 : Is Proofs.Tryz.prog 22 := ⟨Proofs.Tryz.f22, Proofs.Tryz.func22, by kernel_rfl, by kernel_rfl⟩
theorem ora22 : OraOk False Proofs.Tryz.prog 22 F22 := by
 refine ⟨is22, fun vs r hF S w us hrel hs hg => ?_⟩
 have hF0 := hF
 unfold F22 at hF
 split at hF
 case isFalse => cases hF
 rename_i h
 obtain ⟨m, rfl⟩ := h
 rw [F22_eq] at hF0
 obtain ⟨o, ho, rfl⟩ := Option.map_eq_some_iff.1 hF0
 unfold f22F at ho
 split at ho
 case isFalse => cases ho
 rename_i hok
 obtain ⟨f, hf, rfl⟩ := Option.map_eq_some_iff.1 ho
 exact En.calls_of_ht (c := C22) (T := T) (N := 15) (xs := [e29 m, .fn 23]) (r := .tuple [e29 (outM m f).1, e31 (outM m f).2]) Proofs.Tryz.func22 (by kernel_rfl) T_ok (change22 (2 * MO + 30) rfl m f hf hok.1 hok.2) hrel hs hg
set_option maxHeartbeats 2000000
abbrev bO (r : List Bool) : AObj := .row 1 (r.map vB)
theorem mk79 (h : List AObj) {x : Int} {N : Nat} (hx : x = (N : Int)) (hN : N ≤ 100000000) : makeSliceD T 79 h (dI x) (dI x) = some (sD h.length N, h ++ [bO (List.replicate N false)]) := by
 subst hx
 have hn : natOf (dI (N : Int)) = some N := by simp [natOf]
 have h1 : T 79 = some ti79 := rfl
 have h2 : T 4 = some ti4 := rfl
 unfold makeSliceD
 simp only [h1, hn, show ti79.kind = .slice 4 from rfl, h2]
 rw [if_pos ⟨Nat.le_refl _, by show N * 1 ≤ _; omega, by unfold maxLen; omega, by decide, rfl, rfl⟩]
 show some (_, h ++ [AObj.row 1 (List.replicate N (vB false))]) = _
 rw [bO, List.map_replicate]
theorem ixB {h : List AObj} {r N i : Nat} {b : List Bool} {x : Int} (hq : h[r]? = some (bO b)) (hx : x = (i : Int)) (hi : i < N) : (indexAddrH T h 79 (D.unt (sD r N)) (dI x)).map (·, h) = some (.eptr r i 0, h) := by
 subst hx
 have hn : natOf (dI (i : Int)) = some i := by simp [natOf]
 have h1 : T 79 = some ti79 := rfl
 simp only [D.unt, indexAddrH, h1, show ti79.kind = .slice 4 from rfl, hn, if_pos hi, show sizeT T 4 = some 1 from rfl, hq, if_true, Option.map_some, Nat.zero_add]
theorem ldB {h : List AObj} {r i : Nat} {b : List Bool} {x : Bool} (hq : h[r]? = some (bO b)) (hx : b[i]? = some x) : (loadD ti4 h (.eptr r i 0)).map (·, h) = some (dB x, h) := by
 have hx' : (b.map vB)[i]? = some (vB x) := by rw [List.getElem?_map, hx]; rfl
 simp only [loadD, hq, hx']
 rfl
theorem stB {h : List AObj} {r i : Nat} {b : List Bool} {x : Bool} (hq : h[r]? = some (bO b)) (hi : i < b.length) : (storeD ti4 h (.eptr r i 0) (dB x)).map (U, ·) = some (U, h.set r (bO (b.set i x))) := by
 have hx' : (b.map vB)[i]? = some (vB b[i]) := by rw [List.getElem?_map, List.getElem?_eq_getElem hi]; rfl
 have h1 : ((D.v (vB x)).solid && (D.v (vB x)).cells.length == ti4.size) = true := rfl
 have h2 : storeV (vB b[i]) (vB x) 0 = some (vB x) := rfl
 have h3 : ((vB x).cells.length == 1 && (vB x).solid) = true := rfl
 simp only [storeD, h1, if_true, hq, hx', h2, h3, Option.map_some, bO, List.map_set]
theorem bsub {x b : Bool} (e : x = b) (h : List AObj) : some (dB x, h) = some (dB b, h) := by rw [e]
def PreB (H G : List AObj) (q : Nat) : Prop := H.length ≤ G.length ∧ ∀ (r : Nat), r < H.length → r ≠ q → G[r]? = H[r]?
theorem PreB.refl (H : List AObj) (q : Nat) : PreB H H q := ⟨Nat.le_refl _, fun _ _ _ => rfl⟩
theorem PreB.trans {A B C : List AObj} {q : Nat} (h : PreB A B q) (g : PreB B C q) : PreB A C q := ⟨Nat.le_trans h.1 g.1, fun r hr hn => by rw [g.2 r (Nat.lt_of_lt_of_le hr h.1) hn, h.2 r hr hn]⟩
theorem PreB.app (H l : List AObj) (q : Nat) : PreB H (H ++ l) q := ⟨by simp, fun r hr _ => List.getElem?_append_left hr⟩
theorem PreB.set {H h : List AObj} {q r : Nat} (hp : PreB H h q) (hr : H.length ≤ r ∨ r = q) (o : AObj) : PreB H (h.set r o) q := ⟨by rw [List.length_set]; exact hp.1, fun i hi hn => by rw [List.getElem?_set_ne (by rcases hr with h | h <;> omega)]; exact hp.2 i hi hn⟩
def frS (a : S61) : Nat := a.fFrom.toNat
def toS (a : S61) : Nat := a.fTo.toNat
def siS (a : S61) : Bool := a.fIn == 0
structure OkM (m : S29) (N : Nat) : Prop where
 st : m.fStates = (N : Int)
 le : N ≤ 100000
 arc : ∀ a ∈ m.fArcs, a.fFrom = (frS a : Int) ∧ frS a < N ∧ a.fTo = (toS a : Int) ∧ toS a < N
 len : m.fArcs.length ≤ 1000000
abbrev mD (m : S29) : AObj := .cells [dI m.fStates, .v (vP e61 m.fArcs), .v (vP e52 m.fFinals)]
noncomputable def C32 : Code := bodyOf Proofs.Tryz.prog 32
noncomputable abbrev A32 : Code := cL (cR C32)
noncomputable abbrev O32 : Code := cL (cL (cR A32))
noncomputable abbrev I32 : Code := cL (cL (cR (cR O32)))
structure InvS (H : List AObj) (q : Nat) (m : S29) (row : List Bool) (G : List AObj) : Prop where
 mac : G[H.length]? = some (mD m)
 row : G[q]? = some (bO row)
 len : H.length + 1 ≤ G.length
 pre : PreB H G q
theorem InvS.app {H : List AObj} {q : Nat} {m : S29} {row : List Bool} {G : List AObj} (h : InvS H q m row G) (l : List AObj) : InvS H q m row (G ++ l) :=
 ⟨by rw [List.getElem?_append_left (lt_of_getElem? h.mac)]; exact h.mac, by rw [List.getElem?_append_left (lt_of_getElem? h.row)]; exact h.row, by rw [List.length_append]; have := h.len; omega, h.pre.trans (PreB.app _ _ _)⟩
theorem InvS.put {H : List AObj} {q : Nat} {m : S29} {row : List Bool} {G : List AObj} (h : InvS H q m row G) {r : Nat} (hr : H.length + 1 ≤ r) (hq : q < H.length) (o : AObj) : InvS H q m row (G.set r o) :=
 ⟨by rw [List.getElem?_set_ne (by omega)]; exact h.mac, by rw [List.getElem?_set_ne (by omega)]; exact h.row, by rw [List.length_set]; exact h.len, h.pre.set (.inl (by omega)) o⟩
theorem InvS.upd {H : List AObj} {q : Nat} {m : S29} {row : List Bool} {G : List AObj} (h : InvS H q m row G) (hq : q < H.length) (row' : List Bool) : InvS H q m row' (G.set q (bO row')) :=
 ⟨by rw [List.getElem?_set_ne (by omega)]; exact h.mac, List.getElem?_set_self (lt_of_getElem? h.row), by rw [List.length_set]; exact h.len, h.pre.set (.inr rfl) _⟩
abbrev S32i (m : S29) (q p N : Nat) (rd : Int) (i : Int) (G : List AObj) : St := Sm 35 [(1, sD q N), (2, .ptr p 0), (8, dI (N : Int)), (9, dI rd), (12, .v (vP e61 m.fArcs)), (13, dI (m.fArcs.length : Int)), (14, dI i)] G
abbrev S32a (m : S29) (q p N : Nat) (rd : Int) (i : Int) (r : Nat) (G : List AObj) : St := Sm 35 [(1, sD q N), (2, .ptr p 0), (6, .ptr r 0), (8, dI (N : Int)), (9, dI rd), (12, .v (vP e61 m.fArcs)), (13, dI (m.fArcs.length : Int)), (14, dI i)] G
def LS (H : List AObj) (q : Nat) (m : S29) (N : Nat) (rd : Int) (goal : List Bool) : Nat → St → Prop := fun k σ => ∃ (i : Nat) (row : List Bool) (G : List AObj), k = m.fArcs.length - i ∧ i ≤ m.fArcs.length ∧ row.length = N ∧ passE frS toS siS (m.fArcs.drop i) row = goal ∧ InvS H q m row G ∧ Abs.forget [1, 2, 8, 9, 12, 13, 14] σ = S32i m q H.length N rd (i : Int) G
theorem inner32 (n : Nat) (H : List AObj) (m : S29) (q N : Nat) (hm : OkM m N) (hqH : q < H.length) (row0 : List Bool) (h0 : row0.length = N) (rd : Int) {Q : Post}
  (hQ : ∀ G σ, InvS H q m (passE frS toS siS m.fArcs row0) G → Abs.forget [1, 2, 8, 9] σ = Sm 35 [(1, sD q N), (2, .ptr H.length 0), (8, dI (N : Int)), (9, dI rd)] G → Q (.exit 2) σ)
  (G : List AObj) (hG : InvS H q m row0 G) : Ht False Proofs.Tryz.prog (cL (cR I32)) (S32i m q H.length N rd 0 G) Q := by
 refine Ht.loop (LS H q m N rd (passE frS toS siS m.fArcs row0)) m.fArcs.length (by kernel_rfl) ⟨0, row0, G, rfl, Nat.zero_le _, h0, rfl, hG, by kernel_rfl⟩ ?_
 clear hG G
 rintro k σ ⟨i, row, G, rfl, hi, hrl, hps, hG, hσ⟩
 refine Ht.forget [1, 2, 8, 9, 12, 13, 14] (Ht.st hσ ?_)
 clear hσ
 refine Ht.sq (Ht.rg (hxO n) (Ops.sg 1 1 (Ops.dn (seqH.n (Ht.sq ?_)))))
 refine Ht.cond (decide ((i : Int) < (m.fArcs.length : Int))) (by kernel_rfl) (by kernel_rfl) (fun hc => ?_) (fun hc => ?_)
 case refine_2 =>
  have hc := of_decide_eq_false hc
  have hi2 : i = m.fArcs.length := by omega
  refine Ht.exit (id := 2) (by kernel_rfl) ?_
  show Q (.exit 2) _
  rw [List.drop_eq_nil_of_le (by omega)] at hps
  have hps : row = passE frS toS siS m.fArcs row0 := hps
  rw [hps] at hG
  exact hQ G _ hG (by kernel_rfl)
 have hc := of_decide_eq_true hc
 have hi : i < m.fArcs.length := by omega
 have hlen := hm.len
 have hw2 : w64 ((i : Int) + 1) = ((i + 1 : Nat) : Int) := by rw [w64_id ⟨by omega, by omega⟩]; omega
 obtain ⟨a, ha⟩ : ∃ a, m.fArcs[i]? = some a := ⟨_, List.getElem?_eq_getElem hi⟩
 have hix : idx m.fArcs (i : Int) = some a := by simp [idx, ha]
 obtain ⟨a1, a2, a3, a4⟩ := hm.arc a (List.mem_of_getElem? ha)
 have hdr : m.fArcs.drop i = a :: m.fArcs.drop (i + 1) := by
  rw [List.drop_eq_getElem_cons hi]
  rw [List.getElem?_eq_getElem hi] at ha
  rw [Option.some.inj ha]
 rw [hdr] at hps
 have hps : passE frS toS siS (m.fArcs.drop (i + 1)) (stepS frS toS siS row a) = passE frS toS siS m.fArcs row0 := hps
 refine Ht.sk (seqH.n (Ht.sq (Ht.bk 3 (Ht.sq ?_))))
 have z1 : (G ++ [AObj.cells zA])[G.length]? = some (.cells zA) := by rw [List.getElem?_append_right (Nat.le_refl _), Nat.sub_self]; rfl
 refine Ht.rg (hxO n) ?_
 refine Ops.on 1 (fun h0 e0 => ix_r (T := T) h0 27 62 5 .plain e61 m.fArcs (i : Int) a hix (by kernel_rfl) (by kernel_rfl) (fun _ => rfl)) ?_
 refine Ops.sg 2 3 ?_
 refine Ops.on 4 (fun h0 e0 => stc (i := ti62) (h := h0) (r := G.length) (off := 0) (cs := zA) (cs' := aC a) (x := .v (e61 a)) (hq_of (g := G ++ [AObj.cells zA]) (e0.trans (by kernel_rfl)) z1) (by rfl) (by rfl)) ?_
 refine Ops.dn (seqH.n ?_)
 obtain ⟨G1, hG1⟩ : ∃ G1, (G ++ [AObj.cells zA]).set G.length (AObj.cells (aC a)) = G1 := ⟨_, rfl⟩
 refine Ht.forget [1, 2, 6, 8, 9, 12, 13, 14] (Ht.st (σ' := S32a m q H.length N rd (i : Int) G.length ((G ++ [AObj.cells zA]).set G.length (AObj.cells (aC a)))) (by kernel_rfl) ?_)
 rw [hG1]
 have b1 : G1[G.length]? = some (.cells (aC a)) := by rw [← hG1]; exact List.getElem?_set_self (by simp)
 have hI1 : InvS H q m row G1 := by rw [← hG1]; exact (hG.app _).put hG.len hqH _
 have hr1 := hI1.row
 have hgt : row[frS a]? = some (on row (frS a)) := on_get (by omega)
 have fin : ∀ (row' : List Bool) (G' : List AObj), stepS frS toS siS row a = row' → InvS H q m row' G' → lpH (LS H q m N rd (passE frS toS siS m.fArcs row0)) (m.fArcs.length - i) Q .normal (S32i m q H.length N rd (w64 ((i : Int) + 1)) G') := by
  intro row' G' hs hI
  refine ⟨m.fArcs.length - (i + 1), by omega, i + 1, row', G', rfl, hi, by rw [← hs, stepS_len]; exact hrl, by rw [← hs]; exact hps, hI, ?_⟩
  rw [hw2]
  kernel_rfl
 have skipped : stepS frS toS siS row a = row → ∀ σ, Abs.forget [1, 2, 8, 9, 12, 13, 14] σ = S32i m q H.length N rd (i : Int) G1 → Ht False Proofs.Tryz.prog (cR (cR (cR (cL (cL (cR I32)))))) σ (lpH (LS H q m N rd (passE frS toS siS m.fArcs row0)) (m.fArcs.length - i) Q) := by
  intro hs σ hσ
  refine Ht.forget [1, 2, 8, 9, 12, 13, 14] (Ht.st hσ (Ht.rg (hxO n) (Ops.sg 2 2 (Ops.dn ?_))))
  obtain ⟨f, h1, j', r', G', h2, h3, h4, h5, h6, h7⟩ := fin row G1 hs hI1
  exact ⟨f, h1, j', r', G', h2, h3, h4, h5, h6, Eq.trans (by kernel_rfl) h7⟩
 refine Ht.sq ?_
 by_cases he : a.fIn = 0
 case neg =>
  have he2 : (a.fIn == 0) = false := by simpa using he
  refine Ht.rg (hxO n) (Ops.sg 1 1 ?_)
  refine Ops.on 2 (fun h0 e0 => ldc (i := ti3) (h := h0) (r := G.length) (off := 2) (cs := aC a) (d := dI a.fIn) (hq_of (g := G1) (e0.trans (by kernel_rfl)) b1) (by rfl)) ?_
  refine Ops.on 3 (fun h0 e0 => bsub he2 h0) ?_
  refine Ops.sg 7 10 (Ops.dn (seqH.n ?_))
  refine Ht.cond false (by kernel_rfl) (by kernel_rfl) (fun hc => nomatch hc) (fun _ => ?_)
  refine Ht.sk (blkH.n (seqH.n ?_))
  exact skipped (by unfold stepS siS; rw [he2]; rfl) _ (by kernel_rfl)
 have he2 : (a.fIn == 0) = true := by simpa using he
 refine Ht.rg (hxO n) (Ops.sg 1 1 ?_)
 refine Ops.on 2 (fun h0 e0 => ldc (i := ti3) (h := h0) (r := G.length) (off := 2) (cs := aC a) (d := dI a.fIn) (hq_of (g := G1) (e0.trans (by kernel_rfl)) b1) (by rfl)) ?_
 refine Ops.on 3 (fun h0 e0 => bsub he2 h0) ?_
 refine Ops.sg 3 6 ?_
 refine Ops.on 7 (fun h0 e0 => ldc (i := ti3) (h := h0) (r := G.length) (off := 0) (cs := aC a) (d := dI a.fFrom) (hq_of (g := G1) (e0.trans (by kernel_rfl)) b1) (by rfl)) ?_
 refine Ops.on 8 (fun h0 e0 => ixB (h := h0) (r := q) (N := N) (i := frS a) (hq_of (g := G1) (e0.trans (by kernel_rfl)) hr1) a1 a2) ?_
 refine Ops.on 9 (fun h0 e0 => ldB (h := h0) (r := q) (i := frS a) (hq_of (g := G1) (e0.trans (by kernel_rfl)) hr1) hgt) ?_
 refine Ops.sg 1 10 (Ops.dn (seqH.n ?_))
 refine Ht.cond (on row (frS a)) (by kernel_rfl) (by kernel_rfl) (fun hx => ?_) (fun hx => ?_)
 case refine_2 =>
  refine Ht.sk (blkH.n (seqH.n ?_))
  exact skipped (by unfold stepS siS; rw [he2, hx]; rfl) _ (by kernel_rfl)
 refine Ht.rg (hxO n) (Ops.sg 2 2 ?_)
 refine Ops.on 3 (fun h0 e0 => ldc (i := ti3) (h := h0) (r := G.length) (off := 1) (cs := aC a) (d := dI a.fTo) (hq_of (g := G1) (e0.trans (by kernel_rfl)) b1) (by rfl)) ?_
 refine Ops.on 4 (fun h0 e0 => ixB (h := h0) (r := q) (N := N) (i := toS a) (hq_of (g := G1) (e0.trans (by kernel_rfl)) hr1) a3 a4) ?_
 refine Ops.on 5 (fun h0 e0 => stB (h := h0) (r := q) (i := toS a) (x := true) (hq_of (g := G1) (e0.trans (by kernel_rfl)) hr1) (by rw [hrl]; exact a4)) ?_
 refine Ops.dn (blkH.n (seqH.n ?_))
 refine Ht.forget [1, 2, 8, 9, 12, 13, 14] (Ht.st (σ' := S32i m q H.length N rd (i : Int) (G1.set q (bO (row.set (toS a) true)))) (by kernel_rfl) (Ht.rg (hxO n) (Ops.sg 2 2 (Ops.dn ?_))))
 obtain ⟨f, h1, j', r', G', h2, h3, h4, h5, h6, h7⟩ := fin (row.set (toS a) true) (G1.set q (bO (row.set (toS a) true))) (by unfold stepS siS; rw [he2, hx]; rfl) (hI1.upd hqH _)
 exact ⟨f, h1, j', r', G', h2, h3, h4, h5, h6, Eq.trans (by kernel_rfl) h7⟩
abbrev S32o (q p N : Nat) (rd : Int) (G : List AObj) : St := Sm 35 [(1, sD q N), (2, .ptr p 0), (8, dI (N : Int)), (9, dI rd)] G
def SQ (H : List AObj) (q N : Nat) (row : List Bool) (d : D) (h' : List AObj) : Prop := d = sD q N ∧ h'[q]? = some (bO row) ∧ PreB H h' q
theorem call32 (n : Nat) (H : List AObj) (m : S29) (q N : Nat) (hm : OkM m N) (row0 : List Bool) (h0 : row0.length = N) (hq : H[q]? = some (bO row0)) :
  CallT False Proofs.Tryz.prog 32 [.v (e29 m), sD q N] H (SQ H q N (itE frS toS siS m.fArcs N row0)) := by
 have hqH := lt_of_getElem? hq
 have hle := hm.le
 refine callT_of_ht (c := C32) (T := T) Proofs.Tryz.func32 (by kernel_rfl) T_ok (Ht.sq (Ht.rg (hxO n) (Ops.sg 2 2 (Ops.dn (seqH.n ?_)))))
 refine Ht.forget [1, 2] (Ht.st (σ' := Sm 35 [(1, sD q N), (2, .ptr H.length 0)] (H ++ [mD m])) (by kernel_rfl) ?_)
 have z1 : (H ++ [mD m])[H.length]? = some (mD m) := by rw [List.getElem?_append_right (Nat.le_refl _), Nat.sub_self]; rfl
 have hI0 : InvS H q m row0 (H ++ [mD m]) := ⟨z1, by rw [List.getElem?_append_left hqH]; exact hq, by simp, PreB.app _ _ _⟩
 refine Ht.sq (Ht.sq (Ht.rg (hxO n) (Ops.sg 1 1 ?_)))
 refine Ops.on 2 (fun h0 e0 => ldc (i := ti3) (h := h0) (r := H.length) (off := 0) (cs := [dI m.fStates, .v (vP e61 m.fArcs), .v (vP e52 m.fFinals)]) (d := dI m.fStates) (hq_of (g := H ++ [mD m]) (e0.trans (by kernel_rfl)) z1) (by rfl)) ?_
 refine Ops.sg 1 3 (Ops.dn (seqH.n (Ht.bk 0 ?_)))
 refine Ht.loop (fun k σ => ∃ (i : Nat) (row : List Bool) (G : List AObj), k = N - i ∧ i ≤ N ∧ row.length = N ∧ itE frS toS siS m.fArcs (N - i) row = itE frS toS siS m.fArcs N row0 ∧ InvS H q m row G ∧ Abs.forget [1, 2, 8, 9] σ = S32o q H.length N (i : Int) G) N (by kernel_rfl) ⟨0, row0, H ++ [mD m], rfl, Nat.zero_le _, h0, rfl, hI0, ?_⟩ ?_
 ·show Abs.forget [1, 2, 8, 9] _ = Sm 35 [(1, sD q N), (2, .ptr H.length 0), (8, dI (N : Int)), (9, dI ((0 : Nat) : Int))] (H ++ [mD m])
  rw [← hm.st]
  kernel_rfl
 rintro k σ ⟨i, row, G, rfl, hi, hrl, hit, hG, hσ⟩
 refine Ht.forget [1, 2, 8, 9] (Ht.st hσ ?_)
 clear hσ
 refine Ht.sq (Ht.rg (hxO n) (Ops.sg 1 1 (Ops.dn (seqH.n (Ht.sq ?_)))))
 refine Ht.cond (decide ((i : Int) < (N : Int))) (by kernel_rfl) (by kernel_rfl) (fun hc => ?_) (fun hc => ?_)
 case refine_2 =>
  have hc := of_decide_eq_false hc
  have hi2 : i = N := by omega
  refine Ht.exit (id := 0) (by kernel_rfl) ?_
  show Ht False Proofs.Tryz.prog (cR (cR C32)) _ _
  rw [hi2, Nat.sub_self] at hit
  have hit : row = itE frS toS siS m.fArcs N row0 := hit
  rw [hit] at hG
  refine Ht.sq (Ht.rg (hxO n) (Ops.sg 2 2 (Ops.dn (seqH.n (Ht.rt ?_)))))
  have hr : resOf Proofs.Tryz.prog 32 = [.tmp 4] := by kernel_rfl
  have fin : ∀ σ : St, σ.tmps.getD 4 .undef = sD q N → resultsD T σ (resOf Proofs.Tryz.prog 32) = some (sD q N) := fun σ h4 => by
   rw [hr]; simp only [resultsD, allM, resultD, h4]
  exact ⟨.inr rfl, sD q N, fin _ (by kernel_rfl), rfl, hG.row, hG.pre⟩
 have hc := of_decide_eq_true hc
 have hi : i < N := by omega
 have hw2 : w64 ((i : Int) + 1) = ((i + 1 : Nat) : Int) := by rw [w64_id ⟨by omega, by omega⟩]; omega
 have hstep : itE frS toS siS m.fArcs (N - (i + 1)) (passE frS toS siS m.fArcs row) = itE frS toS siS m.fArcs N row0 := by
  rw [← hit, show N - i = (N - (i + 1)) + 1 by omega]; rfl
 refine Ht.sk (seqH.n (Ht.sq (Ht.bk 1 (Ht.sq (Ht.rg (hxO n) (Ops.sg 1 1 ?_))))))
 refine Ops.on 2 (fun h0 e0 => ldc (i := ti27) (h := h0) (r := H.length) (off := 1) (cs := [dI m.fStates, .v (vP e61 m.fArcs), .v (vP e52 m.fFinals)]) (d := .v (vP e61 m.fArcs)) (hq_of (g := G) (e0.trans (by kernel_rfl)) hG.mac) (by rfl)) ?_
 refine Ops.on 3 (fun h0 e0 => len_r (T := T) h0 27 62 .plain e61 m.fArcs (by kernel_rfl)) ?_
 refine Ops.sg 1 4 (Ops.dn (seqH.n (Ht.bk 2 ?_)))
 refine Ht.forget [1, 2, 8, 9, 12, 13, 14] (Ht.st (σ' := S32i m q H.length N (i : Int) 0 G) (by kernel_rfl) ?_)
 refine inner32 n H m q N hm hqH row hrl (i : Int) (fun G' σ' hG' hσ' => ?_) G hG
 refine blkH.x (blkH.n (seqH.n ?_))
 refine Ht.forget [1, 2, 8, 9] (Ht.st hσ' (Ht.rg (hxO n) (Ops.sg 2 2 (Ops.dn ?_))))
 refine ⟨N - (i + 1), by omega, i + 1, passE frS toS siS m.fArcs row, G', rfl, hi, by rw [passE_len]; exact hrl, hstep, hG', ?_⟩
 have e : ∀ y : Int, y = ((i + 1 : Nat) : Int) → S32o q H.length N y G' = S32o q H.length N ((i + 1 : Nat) : Int) G' := fun y hy => by rw [hy]
 refine Eq.trans ?_ (e _ hw2)
 kernel_rfl
theorem is32 : Is Proofs.Tryz.prog 32 := ⟨Proofs.Tryz.f32, Proofs.Tryz.func32, by kernel_rfl, by kernel_rfl⟩
set_option maxHeartbeats 2000000
def lbS (a : S61) : Int := a.fIn
def stF (f : S52) : Nat := f.fState.toNat
structure OkA (m : S29) (N : Nat) : Prop extends OkM m N where
 fin : ∀ f ∈ m.fFinals, f.fState = (stF f : Int) ∧ stF f < N
 fins : m.fFinals.length ≤ 1000000
noncomputable def C9 : Code := bodyOf Proofs.Tryz.prog 9
noncomputable abbrev W9 : Code := cL (cR (cR (cR (cR C9))))
noncomputable abbrev F9 : Code := cR (cR (cR (cR (cR C9))))
noncomputable abbrev B9 : Code := cL (cL (cR W9))
noncomputable abbrev X9 : Code := cL (cL (cR (cR B9)))
noncomputable abbrev Y9 : Code := cR (cR X9)
noncomputable abbrev Z9 : Code := cL (cR Y9)
structure InvA (m : S29) (q q2 : Nat) (h nxt : List Bool) (G : List AObj) : Prop where
 mac : G[0]? = some (mD m)
 now : G[q]? = some (bO h)
 new : G[q2]? = some (bO nxt)
 ne : q ≠ q2
 q1 : 1 ≤ q
 q2 : 1 ≤ q2
theorem InvA.app {m : S29} {q q2 : Nat} {h nxt : List Bool} {G : List AObj} (i : InvA m q q2 h nxt G) (l : List AObj) : InvA m q q2 h nxt (G ++ l) :=
 ⟨by rw [List.getElem?_append_left (lt_of_getElem? i.mac)]; exact i.mac, by rw [List.getElem?_append_left (lt_of_getElem? i.now)]; exact i.now, by rw [List.getElem?_append_left (lt_of_getElem? i.new)]; exact i.new, i.ne, i.q1, i.q2⟩
theorem InvA.put {m : S29} {q q2 : Nat} {h nxt : List Bool} {G : List AObj} (i : InvA m q q2 h nxt G) {r : Nat} (h0 : r ≠ 0) (h1 : r ≠ q) (h2 : r ≠ q2) (o : AObj) : InvA m q q2 h nxt (G.set r o) :=
 ⟨by rw [List.getElem?_set_ne h0]; exact i.mac, by rw [List.getElem?_set_ne h1]; exact i.now, by rw [List.getElem?_set_ne h2]; exact i.new, i.ne, i.q1, i.q2⟩
theorem InvA.upd {m : S29} {q q2 : Nat} {h nxt : List Bool} {G : List AObj} (i : InvA m q q2 h nxt G) (nxt' : List Bool) : InvA m q q2 h nxt' (G.set q2 (bO nxt')) :=
 ⟨by rw [List.getElem?_set_ne (by have := i.q2; omega)]; exact i.mac, by rw [List.getElem?_set_ne (by have := i.ne; omega)]; exact i.now, List.getElem?_set_self (lt_of_getElem? i.new), i.ne, i.q1, i.q2⟩
abbrev S9z (m : S29) (w : List Int) (q q2 N : Nat) (x wi : Int) (i : Int) (G : List AObj) : St := Sm 75 [(2, .ptr 0 0), (5, sD q N), (7, dI x), (8, sD q2 N), (24, .v (eL eI w)), (25, dI (w.length : Int)), (26, dI wi), (36, .v (vP e61 m.fArcs)), (37, dI (m.fArcs.length : Int)), (38, dI i)] G
abbrev S9y (m : S29) (w : List Int) (q q2 N : Nat) (x wi : Int) (i : Int) (r : Nat) (G : List AObj) : St := Sm 75 [(2, .ptr 0 0), (5, sD q N), (7, dI x), (8, sD q2 N), (10, .ptr r 0), (24, .v (eL eI w)), (25, dI (w.length : Int)), (26, dI wi), (36, .v (vP e61 m.fArcs)), (37, dI (m.fArcs.length : Int)), (38, dI i)] G
def stp (x : Int) (h : List Bool) (g : List Bool) (a : S61) : List Bool := if lbS a == x && on h (frS a) then g.set (toS a) true else g
theorem stp_len (x : Int) (h g : List Bool) (a : S61) : (stp x h g a).length = g.length := by unfold stp; split <;> simp
def LA (m : S29) (w : List Int) (q q2 N : Nat) (x wi : Int) (h goal : List Bool) : Nat → St → Prop := fun k σ => ∃ (i : Nat) (nxt : List Bool) (G : List AObj), k = m.fArcs.length - i ∧ i ≤ m.fArcs.length ∧ nxt.length = N ∧ (m.fArcs.drop i).foldl (stp x h) nxt = goal ∧ InvA m q q2 h nxt G ∧ Abs.forget [2, 5, 7, 8, 24, 25, 26, 36, 37, 38] σ = S9z m w q q2 N x wi (i : Int) G
theorem arcs9 (n : Nat) (m : S29) (w : List Int) (q q2 N : Nat) (hm : OkM m N) (x wi : Int) (h : List Bool) (hh : h.length = N) (nxt0 : List Bool) (h0 : nxt0.length = N) {Q : Post}
  (hQ : ∀ G σ, InvA m q q2 h (m.fArcs.foldl (stp x h) nxt0) G → Abs.forget [2, 8, 24, 25, 26] σ = Sm 75 [(2, .ptr 0 0), (8, sD q2 N), (24, .v (eL eI w)), (25, dI (w.length : Int)), (26, dI wi)] G → Q (.exit 2) σ)
  (G : List AObj) (hG : InvA m q q2 h nxt0 G) : Ht False Proofs.Tryz.prog (cL (cR Z9)) (S9z m w q q2 N x wi 0 G) Q := by
 refine Ht.loop (LA m w q q2 N x wi h (m.fArcs.foldl (stp x h) nxt0)) m.fArcs.length (by kernel_rfl) ⟨0, nxt0, G, rfl, Nat.zero_le _, h0, rfl, hG, by kernel_rfl⟩ ?_
 clear hG G
 rintro k σ ⟨i, nxt, G, rfl, hi, hrl, hps, hG, hσ⟩
 refine Ht.forget [2, 5, 7, 8, 24, 25, 26, 36, 37, 38] (Ht.st hσ ?_)
 clear hσ
 refine Ht.sq (Ht.rg (hxO n) (Ops.sg 1 1 (Ops.dn (seqH.n (Ht.sq ?_)))))
 refine Ht.cond (decide ((i : Int) < (m.fArcs.length : Int))) (by kernel_rfl) (by kernel_rfl) (fun hc => ?_) (fun hc => ?_)
 case refine_2 =>
  have hc := of_decide_eq_false hc
  have hi2 : i = m.fArcs.length := by omega
  refine Ht.exit (id := 2) (by kernel_rfl) ?_
  show Q (.exit 2) _
  rw [List.drop_eq_nil_of_le (by omega)] at hps
  have hps : nxt = m.fArcs.foldl (stp x h) nxt0 := hps
  rw [hps] at hG
  exact hQ G _ hG (by kernel_rfl)
 have hc := of_decide_eq_true hc
 have hi : i < m.fArcs.length := by omega
 have hlen := hm.len
 have hw2 : w64 ((i : Int) + 1) = ((i + 1 : Nat) : Int) := by rw [w64_id ⟨by omega, by omega⟩]; omega
 obtain ⟨a, ha⟩ : ∃ a, m.fArcs[i]? = some a := ⟨_, List.getElem?_eq_getElem hi⟩
 have hix : idx m.fArcs (i : Int) = some a := by simp [idx, ha]
 obtain ⟨a1, a2, a3, a4⟩ := hm.arc a (List.mem_of_getElem? ha)
 have hdr : m.fArcs.drop i = a :: m.fArcs.drop (i + 1) := by
  rw [List.drop_eq_getElem_cons hi]
  rw [List.getElem?_eq_getElem hi] at ha
  rw [Option.some.inj ha]
 rw [hdr, List.foldl_cons] at hps
 refine Ht.sk (seqH.n (Ht.sq (Ht.bk 3 (Ht.sq ?_))))
 have z1 : (G ++ [AObj.cells zA])[G.length]? = some (.cells zA) := by rw [List.getElem?_append_right (Nat.le_refl _), Nat.sub_self]; rfl
 refine Ht.rg (hxO n) ?_
 refine Ops.on 1 (fun h0 e0 => ix_r (T := T) h0 27 62 5 .plain e61 m.fArcs (i : Int) a hix (by kernel_rfl) (by kernel_rfl) (fun _ => rfl)) ?_
 refine Ops.sg 2 3 ?_
 refine Ops.on 4 (fun h0 e0 => stc (i := ti62) (h := h0) (r := G.length) (off := 0) (cs := zA) (cs' := aC a) (x := .v (e61 a)) (hq_of (g := G ++ [AObj.cells zA]) (e0.trans (by kernel_rfl)) z1) (by rfl) (by rfl)) ?_
 refine Ops.dn (seqH.n ?_)
 obtain ⟨G1, hG1⟩ : ∃ G1, (G ++ [AObj.cells zA]).set G.length (AObj.cells (aC a)) = G1 := ⟨_, rfl⟩
 refine Ht.forget [2, 5, 7, 8, 10, 24, 25, 26, 36, 37, 38] (Ht.st (σ' := S9y m w q q2 N x wi (i : Int) G.length ((G ++ [AObj.cells zA]).set G.length (AObj.cells (aC a)))) (by kernel_rfl) ?_)
 rw [hG1]
 have b1 : G1[G.length]? = some (.cells (aC a)) := by rw [← hG1]; exact List.getElem?_set_self (by simp)
 have hI1 : InvA m q q2 h nxt G1 := by
  rw [← hG1]
  have g0 := lt_of_getElem? hG.mac
  have g1 := lt_of_getElem? hG.now
  have g2 := lt_of_getElem? hG.new
  exact (hG.app _).put (by omega) (by omega) (by omega) _
 have hr1 := hI1.now
 have hr2 := hI1.new
 have hgt : h[frS a]? = some (on h (frS a)) := on_get (by omega)
 have fin : ∀ (nxt' : List Bool) (G' : List AObj), stp x h nxt a = nxt' → InvA m q q2 h nxt' G' → lpH (LA m w q q2 N x wi h (m.fArcs.foldl (stp x h) nxt0)) (m.fArcs.length - i) Q .normal (S9z m w q q2 N x wi (w64 ((i : Int) + 1)) G') := by
  intro nxt' G' hs hI
  refine ⟨m.fArcs.length - (i + 1), by omega, i + 1, nxt', G', rfl, hi, by rw [← hs, stp_len]; exact hrl, by rw [← hs]; exact hps, hI, ?_⟩
  rw [hw2]
  kernel_rfl
 have skipped : stp x h nxt a = nxt → ∀ σ, Abs.forget [2, 5, 7, 8, 24, 25, 26, 36, 37, 38] σ = S9z m w q q2 N x wi (i : Int) G1 → Ht False Proofs.Tryz.prog (cR (cR (cR (cL (cL (cR Z9)))))) σ (lpH (LA m w q q2 N x wi h (m.fArcs.foldl (stp x h) nxt0)) (m.fArcs.length - i) Q) := by
  intro hs σ hσ
  refine Ht.forget [2, 5, 7, 8, 24, 25, 26, 36, 37, 38] (Ht.st hσ (Ht.rg (hxO n) (Ops.sg 2 2 (Ops.dn ?_))))
  obtain ⟨f, h1, j', r', G', h2, h3, h4, h5, h6, h7⟩ := fin nxt G1 hs hI1
  exact ⟨f, h1, j', r', G', h2, h3, h4, h5, h6, Eq.trans (by kernel_rfl) h7⟩
 refine Ht.sq ?_
 by_cases he : a.fIn = x
 case neg =>
  have he2 : (a.fIn == x) = false := by simpa using he
  refine Ht.rg (hxO n) (Ops.sg 1 1 ?_)
  refine Ops.on 2 (fun h0 e0 => ldc (i := ti3) (h := h0) (r := G.length) (off := 2) (cs := aC a) (d := dI a.fIn) (hq_of (g := G1) (e0.trans (by kernel_rfl)) b1) (by rfl)) ?_
  refine Ops.sg 1 3 ?_
  refine Ops.on 4 (fun h0 e0 => bsub he2 h0) ?_
  refine Ops.sg 7 11 (Ops.dn (seqH.n ?_))
  refine Ht.cond false (by kernel_rfl) (by kernel_rfl) (fun hc => nomatch hc) (fun _ => ?_)
  refine Ht.sk (blkH.n (seqH.n ?_))
  exact skipped (by unfold stp lbS; rw [he2]; rfl) _ (by kernel_rfl)
 have he2 : (a.fIn == x) = true := by simpa using he
 refine Ht.rg (hxO n) (Ops.sg 1 1 ?_)
 refine Ops.on 2 (fun h0 e0 => ldc (i := ti3) (h := h0) (r := G.length) (off := 2) (cs := aC a) (d := dI a.fIn) (hq_of (g := G1) (e0.trans (by kernel_rfl)) b1) (by rfl)) ?_
 refine Ops.sg 1 3 ?_
 refine Ops.on 4 (fun h0 e0 => bsub he2 h0) ?_
 refine Ops.sg 3 7 ?_
 refine Ops.on 8 (fun h0 e0 => ldc (i := ti3) (h := h0) (r := G.length) (off := 0) (cs := aC a) (d := dI a.fFrom) (hq_of (g := G1) (e0.trans (by kernel_rfl)) b1) (by rfl)) ?_
 refine Ops.on 9 (fun h0 e0 => ixB (h := h0) (r := q) (N := N) (i := frS a) (hq_of (g := G1) (e0.trans (by kernel_rfl)) hr1) a1 a2) ?_
 refine Ops.on 10 (fun h0 e0 => ldB (h := h0) (r := q) (i := frS a) (hq_of (g := G1) (e0.trans (by kernel_rfl)) hr1) hgt) ?_
 refine Ops.sg 1 11 (Ops.dn (seqH.n ?_))
 refine Ht.cond (on h (frS a)) (by kernel_rfl) (by kernel_rfl) (fun hx => ?_) (fun hx => ?_)
 case refine_2 =>
  refine Ht.sk (blkH.n (seqH.n ?_))
  exact skipped (by unfold stp lbS; rw [he2, hx]; rfl) _ (by kernel_rfl)
 refine Ht.rg (hxO n) (Ops.sg 2 2 ?_)
 refine Ops.on 3 (fun h0 e0 => ldc (i := ti3) (h := h0) (r := G.length) (off := 1) (cs := aC a) (d := dI a.fTo) (hq_of (g := G1) (e0.trans (by kernel_rfl)) b1) (by rfl)) ?_
 refine Ops.on 4 (fun h0 e0 => ixB (h := h0) (r := q2) (N := N) (i := toS a) (hq_of (g := G1) (e0.trans (by kernel_rfl)) hr2) a3 a4) ?_
 refine Ops.on 5 (fun h0 e0 => stB (h := h0) (r := q2) (i := toS a) (x := true) (hq_of (g := G1) (e0.trans (by kernel_rfl)) hr2) (by rw [hrl]; exact a4)) ?_
 refine Ops.dn (blkH.n (seqH.n ?_))
 refine Ht.forget [2, 5, 7, 8, 24, 25, 26, 36, 37, 38] (Ht.st (σ' := S9z m w q q2 N x wi (i : Int) (G1.set q2 (bO (nxt.set (toS a) true)))) (by kernel_rfl) (Ht.rg (hxO n) (Ops.sg 2 2 (Ops.dn ?_))))
 obtain ⟨f, h1, j', r', G', h2, h3, h4, h5, h6, h7⟩ := fin (nxt.set (toS a) true) (G1.set q2 (bO (nxt.set (toS a) true))) (by unfold stp lbS; rw [he2, hx]; rfl) (hI1.upd _)
 exact ⟨f, h1, j', r', G', h2, h3, h4, h5, h6, Eq.trans (by kernel_rfl) h7⟩
def setE (m : S29) (N : Nat) (x : Int) (h : List Bool) : List Bool := itE frS toS siS m.fArcs N (stepL frS toS lbS x m.fArcs N h)
def resB (m : S29) (N : Nat) : List Int → List Bool → Bool
 | [], h => m.fFinals.any fun f => on h (stF f)
 | x :: w, h => if x < 1 then false else resB m N w (setE m N x h)
theorem resB_cons (m : S29) (N : Nat) (x : Int) (w : List Int) (h : List Bool) : resB m N (x :: w) h = if x < 1 then false else resB m N w (setE m N x h) := rfl
def P9 (b : Bool) : Post := fun e σ => (e = .normal ∨ e = .ret) ∧ ∃ d, resultsD T σ (resOf Proofs.Tryz.prog 9) = some d ∧ frz σ.heap 15 d = some (vB b)
theorem P9.of {b : Bool} {σ : St} (h4 : σ.tmps.getD 4 .undef = dB b) : P9 b .ret σ := by
 have hr : resOf Proofs.Tryz.prog 9 = [.tmp 4] := by kernel_rfl
 exact ⟨.inr rfl, dB b, by rw [hr]; simp only [resultsD, allM, resultD, h4], rfl⟩
structure InvW (m : S29) (q : Nat) (h : List Bool) (G : List AObj) : Prop where
 mac : G[0]? = some (mD m)
 now : G[q]? = some (bO h)
 q1 : 1 ≤ q
abbrev S9w (w : List Int) (q N : Nat) (i : Int) (G : List AObj) : St := Sm 75 [(2, .ptr 0 0), (5, sD q N), (24, .v (eL eI w)), (25, dI (w.length : Int)), (26, dI i)] G
theorem word9 (n : Nat) (m : S29) (w : List Int) (hw : w.length ≤ maxLen) (N : Nat) (hm : OkM m N) (h0 : List Bool) (hh0 : h0.length = N) {Q : Post}
  (hF : ∀ h q G σ, h.length = N → InvW m q h G → (m.fFinals.any fun f => on h (stF f)) = resB m N w h0 → Abs.forget [2, 5] σ = Sm 75 [(2, .ptr 0 0), (5, sD q N)] G → Q (.exit 0) σ)
  (hR : ∀ σ, resB m N w h0 = false → σ.tmps.getD 4 .undef = dB false → Q .ret σ)
  (q : Nat) (G : List AObj) (hG : InvW m q h0 G) : Ht False Proofs.Tryz.prog (cL (cR W9)) (S9w w q N 0 G) Q := by
 refine Ht.loop (fun k σ => ∃ (i : Nat) (h : List Bool) (q : Nat) (G : List AObj), k = w.length - i ∧ i ≤ w.length ∧ h.length = N ∧ resB m N (w.drop i) h = resB m N w h0 ∧ InvW m q h G ∧ Abs.forget [2, 5, 24, 25, 26] σ = S9w w q N (i : Int) G) w.length (by kernel_rfl) ⟨0, h0, q, G, rfl, Nat.zero_le _, hh0, rfl, hG, by kernel_rfl⟩ ?_
 clear hG G q
 rintro k σ ⟨i, h, q, G, rfl, hi, hrl, hps, hG, hσ⟩
 refine Ht.forget [2, 5, 24, 25, 26] (Ht.st hσ ?_)
 clear hσ
 refine Ht.sq (Ht.rg (hxO n) (Ops.sg 1 1 (Ops.dn (seqH.n (Ht.sq ?_)))))
 refine Ht.cond (decide ((i : Int) < (w.length : Int))) (by kernel_rfl) (by kernel_rfl) (fun hc => ?_) (fun hc => ?_)
 case refine_2 =>
  have hc := of_decide_eq_false hc
  refine Ht.exit (id := 0) (by kernel_rfl) ?_
  show Q (.exit 0) _
  rw [List.drop_eq_nil_of_le (by omega)] at hps
  exact hF h q G _ hrl hG hps (by kernel_rfl)
 have hc := of_decide_eq_true hc
 have hi : i < w.length := by omega
 have hml : maxLen = 9223372036854775807 := by decide
 have hle := hm.le
 have hw2 : w64 ((i : Int) + 1) = ((i + 1 : Nat) : Int) := by rw [w64_id ⟨by omega, by omega⟩]; omega
 obtain ⟨x, hx⟩ : ∃ x, w[i]? = some x := ⟨_, List.getElem?_eq_getElem hi⟩
 have hix : idx w (i : Int) = some x := by simp [idx, hx]
 have hdr : w.drop i = x :: w.drop (i + 1) := by
  rw [List.drop_eq_getElem_cons hi]
  rw [List.getElem?_eq_getElem hi] at hx
  rw [Option.some.inj hx]
 rw [hdr] at hps
 refine Ht.sk (seqH.n (Ht.sq (Ht.bk 1 (Ht.sq (Ht.rg (hxO n) ?_)))))
 refine Ops.on 1 (fun h0 e0 => ix_r (T := T) h0 25 3 1 .plain eI w (i : Int) x hix (by kernel_rfl) (by kernel_rfl) (fun _ => rfl)) ?_
 refine Ops.sg 2 3 (Ops.dn (seqH.n (Ht.sq (Ht.sq (Ht.rg (hxO n) (Ops.sg 2 2 (Ops.dn (seqH.n ?_))))))))
 refine Ht.cond (decide (x < 1)) (by kernel_rfl) (by kernel_rfl) (fun hx1 => ?_) (fun hx1 => ?_)
 ·refine Ht.sq (Ht.rg (hxO n) (Ops.sg 1 1 (Ops.dn (seqH.n (Ht.rt ?_)))))
  show Q .ret _
  have hx1 := of_decide_eq_true hx1
  refine hR _ ?_ (by kernel_rfl)
  rw [← hps]
  rw [resB_cons, if_pos hx1]
 have hx1 := of_decide_eq_false hx1
 rw [resB_cons, if_neg hx1] at hps
 refine Ht.sk (seqH.n (Ht.sq (Ht.rg (hxO n) (Ops.sg 1 1 ?_))))
 refine Ops.on 2 (fun h0 e0 => ldc (i := ti3) (h := h0) (r := 0) (off := 0) (cs := [dI m.fStates, .v (vP e61 m.fArcs), .v (vP e52 m.fFinals)]) (d := dI m.fStates) (hq_of (g := G) (e0.trans (by kernel_rfl)) hG.mac) (by rfl)) ?_
 refine Ops.on 3 (fun h0 e0 => mk79 h0 (N := N) hm.st (by omega)) ?_
 refine Ops.sg 1 4 (Ops.dn (seqH.n ?_))
 refine Ht.forget [2, 5, 7, 8, 24, 25, 26] (Ht.st (σ' := Sm 75 [(2, .ptr 0 0), (5, sD q N), (7, dI x), (8, sD G.length N), (24, .v (eL eI w)), (25, dI (w.length : Int)), (26, dI (i : Int))] (G ++ [bO (List.replicate N false)])) (by kernel_rfl) ?_)
 have g0 := lt_of_getElem? hG.mac
 have g1 := lt_of_getElem? hG.now
 have hA : InvA m q G.length h (List.replicate N false) (G ++ [bO (List.replicate N false)]) :=
  ⟨by rw [List.getElem?_append_left g0]; exact hG.mac, by rw [List.getElem?_append_left g1]; exact hG.now, by rw [List.getElem?_append_right (Nat.le_refl _), Nat.sub_self]; rfl, by omega, hG.q1, by omega⟩
 generalize G ++ [bO (List.replicate N false)] = G1 at hA
 refine Ht.sq (Ht.sq (Ht.rg (hxO n) (Ops.sg 1 1 ?_)))
 refine Ops.on 2 (fun h0 e0 => ldc (i := ti27) (h := h0) (r := 0) (off := 1) (cs := [dI m.fStates, .v (vP e61 m.fArcs), .v (vP e52 m.fFinals)]) (d := .v (vP e61 m.fArcs)) (hq_of (g := G1) (e0.trans (by kernel_rfl)) hA.mac) (by rfl)) ?_
 refine Ops.on 3 (fun h0 e0 => len_r (T := T) h0 27 62 .plain e61 m.fArcs (by kernel_rfl)) ?_
 refine Ops.sg 1 4 (Ops.dn (seqH.n (Ht.bk 2 ?_)))
 refine Ht.forget [2, 5, 7, 8, 24, 25, 26, 36, 37, 38] (Ht.st (σ' := S9z m w q G.length N x (i : Int) 0 G1) (by kernel_rfl) ?_)
 refine arcs9 n m w q G.length N hm x (i : Int) h hrl (List.replicate N false) (by simp) (fun G' σ' hG' hσ' => ?_) G1 hA
 refine blkH.x (seqH.n ?_)
 refine Ht.forget [2, 8, 24, 25, 26] (Ht.st hσ' ?_)
 have hst : m.fArcs.foldl (stp x h) (List.replicate N false) = stepL frS toS lbS x m.fArcs N h := rfl
 rw [hst] at hG'
 have hstl : (stepL frS toS lbS x m.fArcs N h).length = N := stepL_len (fun a ha => (hm.arc a ha).2.2.2) x h
 generalize hq2 : G.length = q2 at hG'
 refine Ht.regionCall' (hxO n) 2 (t := 60) (args := [.tmp 58, .tmp 59]) (Qc := SQ G' q2 N (setE m N x h)) (by kernel_rfl) is32 ?_
 refine OpsU.one' 1 (fun h0 e0 => ldc (i := ti30) (h := h0) (r := 0) (off := 0) (cs := [dI m.fStates, .v (vP e61 m.fArcs), .v (vP e52 m.fFinals)]) (d := .v (e29 m)) (hq_of (g := G') (e0.trans (by kernel_rfl)) hG'.mac) (by rfl)) (by kernel_rfl) (by kernel_rfl) ?_
 refine OpsU.seg' 1 2 (by kernel_rfl) ?_
 refine OpsU.done ⟨callT_eq (by kernel_rfl) (by kernel_rfl) (call32 n G' m q2 N hm _ hstl hG'.new), fun d h' hd => ?_⟩
 obtain ⟨rfl, s1, s2⟩ := hd
 refine Ops.sg 1 4 (Ops.dn (blkH.n (seqH.n ?_)))
 refine Ht.forget [2, 5, 24, 25, 26] (Ht.st (σ' := S9w w q2 N (i : Int) h') (by kernel_rfl) (Ht.rg (hxO n) (Ops.sg 2 2 (Ops.dn ?_))))
 have k0 : h'[0]? = some (mD m) := by
  rw [s2.2 0 (lt_of_getElem? hG'.mac) (by have := hG'.q2; omega)]
  exact hG'.mac
 refine ⟨w.length - (i + 1), by omega, i + 1, setE m N x h, q2, h', rfl, hi, ?_, hps, ⟨k0, s1, hG'.q2⟩, ?_⟩
 ·unfold setE
  rw [itE_len]
  exact hstl
 have e : ∀ y : Int, y = ((i + 1 : Nat) : Int) → S9w w q2 N y h' = S9w w q2 N ((i + 1 : Nat) : Int) h' := fun y hy => by rw [hy]
 refine Eq.trans ?_ (e _ hw2)
 kernel_rfl
set_option maxHeartbeats 2000000
abbrev zF : List D := [dI 0, dI 0]
abbrev fC (f : S52) : List D := [dI f.fState, dI f.fWeight]
abbrev S9f (m : S29) (q N : Nat) (i : Int) (G : List AObj) : St := Sm 75 [(2, .ptr 0 0), (5, sD q N), (63, .v (vP e52 m.fFinals)), (64, dI (m.fFinals.length : Int)), (65, dI i)] G
theorem fins9 (n : Nat) (m : S29) (N : Nat) (hm : OkA m N) (h : List Bool) (hh : h.length = N) (q : Nat) (G : List AObj) (hG : InvW m q h G) :
  Ht False Proofs.Tryz.prog F9 (Sm 75 [(2, .ptr 0 0), (5, sD q N)] G) (P9 (m.fFinals.any fun f => on h (stF f))) := by
 have hfl := hm.fins
 refine Ht.sq (Ht.sq (Ht.rg (hxO n) (Ops.sg 1 1 ?_)))
 refine Ops.on 2 (fun h0 e0 => ldc (i := ti28) (h := h0) (r := 0) (off := 2) (cs := [dI m.fStates, .v (vP e61 m.fArcs), .v (vP e52 m.fFinals)]) (d := .v (vP e52 m.fFinals)) (hq_of (g := G) (e0.trans (by kernel_rfl)) hG.mac) (by rfl)) ?_
 refine Ops.on 3 (fun h0 e0 => len_r (T := T) h0 28 53 .plain e52 m.fFinals (by kernel_rfl)) ?_
 refine Ops.sg 1 4 (Ops.dn (seqH.n (Ht.bk 4 ?_)))
 refine Ht.loop (fun k σ => ∃ (i : Nat) (G : List AObj), k = m.fFinals.length - i ∧ i ≤ m.fFinals.length ∧ (m.fFinals.drop i).any (fun f => on h (stF f)) = (m.fFinals.any fun f => on h (stF f)) ∧ InvW m q h G ∧ Abs.forget [2, 5, 63, 64, 65] σ = S9f m q N (i : Int) G) m.fFinals.length (by kernel_rfl) ⟨0, G, rfl, Nat.zero_le _, rfl, hG, by kernel_rfl⟩ ?_
 clear hG G
 rintro k σ ⟨i, G, rfl, hi, hps, hG, hσ⟩
 refine Ht.forget [2, 5, 63, 64, 65] (Ht.st hσ ?_)
 clear hσ
 refine Ht.sq (Ht.rg (hxO n) (Ops.sg 1 1 (Ops.dn (seqH.n (Ht.sq ?_)))))
 refine Ht.cond (decide ((i : Int) < (m.fFinals.length : Int))) (by kernel_rfl) (by kernel_rfl) (fun hc => ?_) (fun hc => ?_)
 case refine_2 =>
  have hc := of_decide_eq_false hc
  refine Ht.exit (id := 4) (by kernel_rfl) ?_
  show Ht False Proofs.Tryz.prog (cR F9) _ (P9 _)
  rw [List.drop_eq_nil_of_le (by omega)] at hps
  refine Ht.sq (Ht.rg (hxO n) (Ops.sg 1 1 (Ops.dn (seqH.n (Ht.rt ?_)))))
  rw [← hps]
  exact P9.of (by kernel_rfl)
 have hc := of_decide_eq_true hc
 have hi : i < m.fFinals.length := by omega
 have hw2 : w64 ((i : Int) + 1) = ((i + 1 : Nat) : Int) := by rw [w64_id ⟨by omega, by omega⟩]; omega
 obtain ⟨f, hf⟩ : ∃ f, m.fFinals[i]? = some f := ⟨_, List.getElem?_eq_getElem hi⟩
 have hix : idx m.fFinals (i : Int) = some f := by simp [idx, hf]
 obtain ⟨a1, a2⟩ := hm.fin f (List.mem_of_getElem? hf)
 have hdr : m.fFinals.drop i = f :: m.fFinals.drop (i + 1) := by
  rw [List.drop_eq_getElem_cons hi]
  rw [List.getElem?_eq_getElem hi] at hf
  rw [Option.some.inj hf]
 rw [hdr, List.any_cons] at hps
 refine Ht.sk (seqH.n (Ht.sq (Ht.bk 5 (Ht.sq ?_))))
 have z1 : (G ++ [AObj.cells zF])[G.length]? = some (.cells zF) := by rw [List.getElem?_append_right (Nat.le_refl _), Nat.sub_self]; rfl
 refine Ht.rg (hxO n) ?_
 refine Ops.on 1 (fun h0 e0 => ix_r (T := T) h0 28 53 2 .plain e52 m.fFinals (i : Int) f hix (by kernel_rfl) (by kernel_rfl) (fun _ => rfl)) ?_
 refine Ops.sg 2 3 ?_
 refine Ops.on 4 (fun h0 e0 => stc (i := ti53) (h := h0) (r := G.length) (off := 0) (cs := zF) (cs' := fC f) (x := .v (e52 f)) (hq_of (g := G ++ [AObj.cells zF]) (e0.trans (by kernel_rfl)) z1) (by rfl) (by rfl)) ?_
 refine Ops.dn (seqH.n ?_)
 obtain ⟨G1, hG1⟩ : ∃ G1, (G ++ [AObj.cells zF]).set G.length (AObj.cells (fC f)) = G1 := ⟨_, rfl⟩
 refine Ht.forget [2, 5, 12, 63, 64, 65] (Ht.st (σ' := Sm 75 [(2, .ptr 0 0), (5, sD q N), (12, .ptr G.length 0), (63, .v (vP e52 m.fFinals)), (64, dI (m.fFinals.length : Int)), (65, dI (i : Int))] ((G ++ [AObj.cells zF]).set G.length (AObj.cells (fC f)))) (by kernel_rfl) ?_)
 rw [hG1]
 have b1 : G1[G.length]? = some (.cells (fC f)) := by rw [← hG1]; exact List.getElem?_set_self (by simp)
 have hI1 : InvW m q h G1 := by
  have g0 := lt_of_getElem? hG.mac
  have g1 := lt_of_getElem? hG.now
  rw [← hG1]
  exact ⟨by rw [List.getElem?_set_ne (by omega), List.getElem?_append_left g0]; exact hG.mac, by rw [List.getElem?_set_ne (by omega), List.getElem?_append_left g1]; exact hG.now, hG.q1⟩
 have hgt : h[stF f]? = some (on h (stF f)) := on_get (by omega)
 refine Ht.sq (Ht.rg (hxO n) (Ops.sg 2 2 ?_))
 refine Ops.on 3 (fun h0 e0 => ldc (i := ti3) (h := h0) (r := G.length) (off := 0) (cs := fC f) (d := dI f.fState) (hq_of (g := G1) (e0.trans (by kernel_rfl)) b1) (by rfl)) ?_
 refine Ops.on 4 (fun h0 e0 => ixB (h := h0) (r := q) (N := N) (i := stF f) (hq_of (g := G1) (e0.trans (by kernel_rfl)) hI1.now) a1 a2) ?_
 refine Ops.on 5 (fun h0 e0 => ldB (h := h0) (r := q) (i := stF f) (hq_of (g := G1) (e0.trans (by kernel_rfl)) hI1.now) hgt) ?_
 refine Ops.dn (seqH.n ?_)
 refine Ht.cond (on h (stF f)) (by kernel_rfl) (by kernel_rfl) (fun hx => ?_) (fun hx => ?_)
 ·refine Ht.sq (Ht.rg (hxO n) (Ops.sg 1 1 (Ops.dn (seqH.n (Ht.rt ?_)))))
  show P9 _ .ret _
  rw [hx, Bool.true_or] at hps
  rw [← hps]
  exact P9.of (by kernel_rfl)
 refine Ht.sk (blkH.n (seqH.n ?_))
 refine Ht.forget [2, 5, 63, 64, 65] (Ht.st (σ' := S9f m q N (i : Int) G1) (by kernel_rfl) (Ht.rg (hxO n) (Ops.sg 2 2 (Ops.dn ?_))))
 refine ⟨m.fFinals.length - (i + 1), by omega, i + 1, G1, rfl, hi, by rw [hx, Bool.false_or] at hps; exact hps, hI1, ?_⟩
 have e : ∀ y : Int, y = ((i + 1 : Nat) : Int) → S9f m q N y G1 = S9f m q N ((i + 1 : Nat) : Int) G1 := fun y hy => by rw [hy]
 refine Eq.trans ?_ (e _ hw2)
 kernel_rfl
def row1 (N : Nat) : List Bool := if 0 < N then (List.replicate N false).set 0 true else List.replicate N false
def accB (m : S29) (N : Nat) (w : List Int) : Bool := resB m N w (itE frS toS siS m.fArcs N (row1 N))
theorem row1_len (N : Nat) : (row1 N).length = N := by unfold row1; split <;> simp
theorem accepts9 (n : Nat) (m : S29) (N : Nat) (hm : OkA m N) (w : List Int) (hw : w.length ≤ maxLen) :
  Ht False Proofs.Tryz.prog C9 (startIn Proofs.Tryz.prog 9 [.v (e29 m), .v (eL eI w)] []) (P9 (accB m N w)) := by
 have hle := hm.le
 refine Ht.sq (Ht.rg (hxO n) (Ops.sg 2 2 (Ops.dn (seqH.n ?_))))
 refine Ht.forget [1, 2] (Ht.st (σ' := Sm 75 [(1, .v (eL eI w)), (2, .ptr 0 0)] [mD m]) (by kernel_rfl) (Ht.sq (Ht.rg (hxO n) (Ops.sg 2 2 ?_))))
 refine Ops.on 3 (fun h0 e0 => mk79 h0 (N := N) hm.st (by omega)) ?_
 refine Ops.sg 1 4 (Ops.dn (seqH.n ?_))
 refine Ht.forget [1, 2, 5] (Ht.st (σ' := Sm 75 [(1, .v (eL eI w)), (2, .ptr 0 0), (5, sD 1 N)] [mD m, bO (List.replicate N false)]) (by kernel_rfl) (Ht.sq ?_))
 have key : ∀ σ, Abs.forget [1, 2, 5] σ = Sm 75 [(1, .v (eL eI w)), (2, .ptr 0 0), (5, sD 1 N)] [mD m, bO (row1 N)] → Ht False Proofs.Tryz.prog (cR (cR (cR C9))) σ (P9 (accB m N w)) := by
  intro σ hσ
  refine Ht.forget [1, 2, 5] (Ht.st hσ ?_)
  have hrow : ([mD m, bO (row1 N)] : List AObj)[1]? = some (bO (row1 N)) := rfl
  have hmac : ([mD m, bO (row1 N)] : List AObj)[0]? = some (mD m) := rfl
  generalize [mD m, bO (row1 N)] = G at hrow hmac
  refine Ht.sq (Ht.regionCall' (hxO n) 2 (t := 23) (args := [.tmp 21, .tmp 22]) (Qc := SQ G 1 N (itE frS toS siS m.fArcs N (row1 N))) (by kernel_rfl) is32 ?_)
  refine OpsU.one' 1 (fun h0 e0 => ldc (i := ti30) (h := h0) (r := 0) (off := 0) (cs := [dI m.fStates, .v (vP e61 m.fArcs), .v (vP e52 m.fFinals)]) (d := .v (e29 m)) (hq_of (g := G) (e0.trans (by kernel_rfl)) hmac) (by rfl)) (by kernel_rfl) (by kernel_rfl) ?_
  refine OpsU.seg' 1 2 (by kernel_rfl) ?_
  refine OpsU.done ⟨callT_eq (by kernel_rfl) (by kernel_rfl) (call32 n G m 1 N hm.toOkM _ (row1_len N) hrow), fun d h' hd => ?_⟩
  obtain ⟨rfl, s1, s2⟩ := hd
  refine Ops.sg 1 4 (Ops.dn (seqH.n ?_))
  have k0 : h'[0]? = some (mD m) := by
   rw [s2.2 0 (lt_of_getElem? hmac) (by omega)]
   exact hmac
  refine Ht.forget [1, 2, 5] (Ht.st (σ' := Sm 75 [(1, .v (eL eI w)), (2, .ptr 0 0), (5, sD 1 N)] h') (by kernel_rfl) (Ht.sq (Ht.sq (Ht.rg (hxO n) (Ops.sg 1 1 ?_)))))
  refine Ops.on 2 (fun h0 e0 => len_r (T := T) h0 25 3 .plain eI w (by kernel_rfl)) ?_
  refine Ops.sg 1 3 (Ops.dn (seqH.n (Ht.bk 0 ?_)))
  refine Ht.forget [2, 5, 24, 25, 26] (Ht.st (σ' := S9w w 1 N 0 h') (by kernel_rfl) ?_)
  refine word9 n m w hw N hm.toOkM (itE frS toS siS m.fArcs N (row1 N)) (by rw [itE_len]; exact row1_len N) (fun h q G σ h1 h2 h3 h4 => ?_) (fun σ h1 h2 => ?_) 1 h' ⟨k0, s1, Nat.le_refl _⟩
  ·refine blkH.x (seqH.n ?_)
   refine Ht.forget [2, 5] (Ht.st h4 ?_)
   unfold accB
   rw [← h3]
   exact fins9 n m N hm h h1 q G h2
  ·show P9 (accB m N w) .ret σ
   unfold accB
   rw [h1]
   exact P9.of h2
 refine Ht.sq (Ht.rg (hxO n) (Ops.sg 3 3 (Ops.dn (seqH.n ?_))))
 have hgt : (m.fStates > 0) ↔ 0 < N := by rw [hm.st]; omega
 refine Ht.cond (decide (m.fStates > 0)) (by kernel_rfl) (by kernel_rfl) (fun hc => ?_) (fun hc => ?_)
 ·have h0N : 0 < N := hgt.1 (of_decide_eq_true hc)
  refine Ht.rg (hxO n) (Ops.sg 1 1 ?_)
  refine Ops.on 2 (fun h0 e0 => ixB (h := h0) (r := 1) (N := N) (i := 0) (hq_of (g := [mD m, bO (List.replicate N false)]) (e0.trans (by kernel_rfl)) rfl) rfl h0N) ?_
  refine Ops.on 3 (fun h0 e0 => stB (h := h0) (r := 1) (i := 0) (x := true) (hq_of (g := [mD m, bO (List.replicate N false)]) (e0.trans (by kernel_rfl)) rfl) (by rw [List.length_replicate]; exact h0N)) ?_
  refine Ops.dn (seqH.n (key _ ?_))
  unfold row1
  rw [if_pos h0N]
  kernel_rfl
 ·have h0N : ¬ 0 < N := fun h => by have := of_decide_eq_false hc; exact this (hgt.2 h)
  refine Ht.sk (seqH.n (key _ ?_))
  unfold row1
  rw [if_neg h0N]
  kernel_rfl
set_option maxHeartbeats 2000000
structure OkC (cs : List S55) : Prop where
 few : cs.length ≤ 1000
 its : ∀ c ∈ cs, c.fItems.length ≤ 1000000 ∧ ∀ x ∈ c.fItems, x.fNext < (cs.length : Int)
def edgeStep (n i : Nat) (t : List Bool) (x : S57) : List Bool := if 0 ≤ x.fNext then t.set (i * n + x.fNext.toNat) true else t
def edgesI (n i : Nat) (xs : List S57) (t : List Bool) : List Bool := xs.foldl (edgeStep n i) t
def edgesC (n : Nat) : Nat → List S55 → List Bool → List Bool
 | _, [], t => t
 | i, c :: r, t => edgesC n (i + 1) r (edgesI n i c.fItems t)
theorem edgesI_len (n i : Nat) : ∀ (xs : List S57) (t : List Bool), (edgesI n i xs t).length = t.length
 | [], t => rfl
 | x :: r, t => by
  show (edgesI n i r (edgeStep n i t x)).length = _
  rw [edgesI_len n i r]
  unfold edgeStep; split <;> simp
noncomputable def C11 : Code := bodyOf Proofs.Tryz.prog 11
noncomputable abbrev R11 : Code := cR (cR (cR C11))
noncomputable abbrev S1_11 : Code := cL R11
noncomputable abbrev S2_11 : Code := cL (cR R11)
noncomputable abbrev S3_11 : Code := cR (cR R11)
noncomputable abbrev B1_11 : Code := cL (cL (cR S1_11))
noncomputable abbrev X1_11 : Code := cL (cL (cR (cR B1_11)))
abbrev zC11 : List D := [.v (.str ByteArray.empty), .v (.sl .nil [])]
abbrev cC11 (c : S55) : List D := [.v (.str c.fName), .v (vP e57 c.fItems)]
abbrev zI11 : List D := [.v (.str ByteArray.empty), .v (.str ByteArray.empty), .v (.sl .nil []), dI 0, dI 0]
abbrev cI11 (x : S57) : List D := [.v (.str x.fBase), .v (.str x.fForm), .v (vP eS x.fTags), dI x.fNext, dI x.fWeight]
structure InvL (cs : List S55) (t : List Bool) (G : List AObj) : Prop where
 lex : G[0]? = some (.cells [.v (vP e55 cs)])
 tab : G[1]? = some (bO t)
theorem InvL.app {cs : List S55} {t : List Bool} {G : List AObj} (h : InvL cs t G) (l : List AObj) : InvL cs t (G ++ l) :=
 ⟨by rw [List.getElem?_append_left (lt_of_getElem? h.lex)]; exact h.lex, by rw [List.getElem?_append_left (lt_of_getElem? h.tab)]; exact h.tab⟩
theorem InvL.put {cs : List S55} {t : List Bool} {G : List AObj} (h : InvL cs t G) {r : Nat} (hr : 2 ≤ r) (o : AObj) : InvL cs t (G.set r o) :=
 ⟨by rw [List.getElem?_set_ne (by omega)]; exact h.lex, by rw [List.getElem?_set_ne (by omega)]; exact h.tab⟩
theorem InvL.upd {cs : List S55} {t : List Bool} {G : List AObj} (h : InvL cs t G) (t' : List Bool) : InvL cs t' (G.set 1 (bO t')) :=
 ⟨by rw [List.getElem?_set_ne (by omega)]; exact h.lex, List.getElem?_set_self (lt_of_getElem? h.tab)⟩
theorem wmul {N i j : Nat} {x y : Int} (hN : N ≤ 1000) (hi : i < N) (hj : j < N) (hx : x = (i : Int)) (hy : y = (j : Int)) : w64 (w64 (x * (N : Int)) + y) = ((i * N + j : Nat) : Int) := by
 subst hx hy
 have h1 : i * N + j < N * N := ix_lt hi hj
 have h2 : N * N ≤ 1000 * 1000 := Nat.mul_le_mul hN hN
 have h3 : (i : Int) * (N : Int) = ((i * N : Nat) : Int) := by rw [Int.natCast_mul]
 have h4 : w64 ((i * N : Nat) : Int) = ((i * N : Nat) : Int) := w64_id ⟨by omega, by omega⟩
 rw [h3, h4, w64_id ⟨by omega, by omega⟩]
 omega
abbrev S11i (cs : List S55) (N i : Nat) (c : S55) (j : Int) (G : List AObj) : St := Sm 101 [(3, dI (N : Int)), (4, sD 1 (N * N)), (5, dI (i : Int)), (21, .v (vP e55 cs)), (22, dI (N : Int)), (23, dI (i : Int)), (29, .v (vP e57 c.fItems)), (30, dI (c.fItems.length : Int)), (31, dI j)] G
abbrev k11i : List Nat := [3, 4, 5, 21, 22, 23, 29, 30, 31]
def LI11 (cs : List S55) (N i : Nat) (c : S55) (goal : List Bool) : Nat → St → Prop := fun k σ => ∃ (j : Nat) (t : List Bool) (G : List AObj), k = c.fItems.length - j ∧ j ≤ c.fItems.length ∧ t.length = N * N ∧ edgesI N i (c.fItems.drop j) t = goal ∧ InvL cs t G ∧ Abs.forget k11i σ = S11i cs N i c (j : Int) G
theorem items11 (n : Nat) (cs : List S55) (N : Nat) (hN : N = cs.length) (hcs : OkC cs) (i : Nat) (hiN : i < N) (c : S55) (hc : c ∈ cs) (t0 : List Bool) (h0 : t0.length = N * N) {Q : Post}
  (hQ : ∀ G σ, InvL cs (edgesI N i c.fItems t0) G → Abs.forget [3, 4, 21, 22, 23] σ = Sm 101 [(3, dI (N : Int)), (4, sD 1 (N * N)), (21, .v (vP e55 cs)), (22, dI (N : Int)), (23, dI (i : Int))] G → Q (.exit 2) σ)
  (G : List AObj) (hG : InvL cs t0 G) : Ht False Proofs.Tryz.prog (cL (cR (cR X1_11))) (S11i cs N i c 0 G) Q := by
 obtain ⟨hil, hnx⟩ := hcs.its c hc
 have hfew := hcs.few
 refine Ht.loop (LI11 cs N i c (edgesI N i c.fItems t0)) c.fItems.length (by kernel_rfl) ⟨0, t0, G, rfl, Nat.zero_le _, h0, rfl, hG, by kernel_rfl⟩ ?_
 clear hG G
 rintro k σ ⟨j, t, G, rfl, hj, htl, hps, hG, hσ⟩
 refine Ht.forget k11i (Ht.st hσ ?_)
 clear hσ
 refine Ht.sq (Ht.rg (hxO n) (Ops.sg 1 1 (Ops.dn (seqH.n (Ht.sq ?_)))))
 refine Ht.cond (decide ((j : Int) < (c.fItems.length : Int))) (by kernel_rfl) (by kernel_rfl) (fun hc1 => ?_) (fun hc1 => ?_)
 case refine_2 =>
  have hc1 := of_decide_eq_false hc1
  refine Ht.exit (id := 2) (by kernel_rfl) ?_
  show Q (.exit 2) _
  rw [List.drop_eq_nil_of_le (by omega)] at hps
  have hps : t = edgesI N i c.fItems t0 := hps
  rw [hps] at hG
  exact hQ G _ hG (by kernel_rfl)
 have hc1 := of_decide_eq_true hc1
 have hj : j < c.fItems.length := by omega
 have hw2 : w64 ((j : Int) + 1) = ((j + 1 : Nat) : Int) := by rw [w64_id ⟨by omega, by omega⟩]; omega
 obtain ⟨x, hx⟩ : ∃ x, c.fItems[j]? = some x := ⟨_, List.getElem?_eq_getElem hj⟩
 have hix : idx c.fItems (j : Int) = some x := by simp [idx, hx]
 have hxn := hnx x (List.mem_of_getElem? hx)
 have hdr : c.fItems.drop j = x :: c.fItems.drop (j + 1) := by
  rw [List.drop_eq_getElem_cons hj]
  rw [List.getElem?_eq_getElem hj] at hx
  rw [Option.some.inj hx]
 rw [hdr] at hps
 have hps : edgesI N i (c.fItems.drop (j + 1)) (edgeStep N i t x) = edgesI N i c.fItems t0 := hps
 refine Ht.sk (seqH.n (Ht.sq (Ht.bk 3 (Ht.sq ?_))))
 have z1 : (G ++ [AObj.cells zI11])[G.length]? = some (.cells zI11) := by rw [List.getElem?_append_right (Nat.le_refl _), Nat.sub_self]; rfl
 refine Ht.rg (hxO n) ?_
 refine Ops.on 1 (fun h0 e0 => ix_r (T := T) h0 54 58 5 .plain e57 c.fItems (j : Int) x hix (by kernel_rfl) (by kernel_rfl) (fun _ => rfl)) ?_
 refine Ops.sg 2 3 ?_
 refine Ops.on 4 (fun h0 e0 => stc (i := ti58) (h := h0) (r := G.length) (off := 0) (cs := zI11) (cs' := cI11 x) (x := .v (e57 x)) (hq_of (g := G ++ [AObj.cells zI11]) (e0.trans (by kernel_rfl)) z1) (by rfl) (by rfl)) ?_
 refine Ops.dn (seqH.n ?_)
 obtain ⟨G1, hG1⟩ : ∃ G1, (G ++ [AObj.cells zI11]).set G.length (AObj.cells (cI11 x)) = G1 := ⟨_, rfl⟩
 refine Ht.forget (8 :: k11i) (Ht.st (σ' := Sm 101 [(3, dI (N : Int)), (4, sD 1 (N * N)), (5, dI (i : Int)), (8, .ptr G.length 0), (21, .v (vP e55 cs)), (22, dI (N : Int)), (23, dI (i : Int)), (29, .v (vP e57 c.fItems)), (30, dI (c.fItems.length : Int)), (31, dI (j : Int))] ((G ++ [AObj.cells zI11]).set G.length (AObj.cells (cI11 x)))) (by kernel_rfl) ?_)
 rw [hG1]
 have b1 : G1[G.length]? = some (.cells (cI11 x)) := by rw [← hG1]; exact List.getElem?_set_self (by simp)
 have hI1 : InvL cs t G1 := by
  rw [← hG1]
  have g1 := lt_of_getElem? hG.tab
  exact (hG.app _).put (by omega) _
 have fin : ∀ (t' : List Bool) (G' : List AObj), edgeStep N i t x = t' → InvL cs t' G' → lpH (LI11 cs N i c (edgesI N i c.fItems t0)) (c.fItems.length - j) Q .normal (S11i cs N i c (w64 ((j : Int) + 1)) G') := by
  intro t' G' hs hI
  refine ⟨c.fItems.length - (j + 1), by omega, j + 1, t', G', rfl, hj, ?_, by rw [← hs]; exact hps, hI, ?_⟩
  ·rw [← hs]; unfold edgeStep; split <;> simp [htl]
  rw [hw2]
  kernel_rfl
 refine Ht.sq (Ht.rg (hxO n) (Ops.sg 1 1 ?_))
 refine Ops.on 2 (fun h0 e0 => ldc (i := ti3) (h := h0) (r := G.length) (off := 3) (cs := cI11 x) (d := dI x.fNext) (hq_of (g := G1) (e0.trans (by kernel_rfl)) b1) (by rfl)) ?_
 refine Ops.sg 1 3 (Ops.dn (seqH.n ?_))
 refine Ht.cond (decide (x.fNext ≥ 0)) (by kernel_rfl) (by kernel_rfl) (fun hx => ?_) (fun hx => ?_)
 case refine_2 =>
  have hx := of_decide_eq_false hx
  refine Ht.sk (blkH.n (seqH.n ?_))
  refine Ht.forget k11i (Ht.st (σ' := S11i cs N i c (j : Int) G1) (by kernel_rfl) (Ht.rg (hxO n) (Ops.sg 2 2 (Ops.dn ?_))))
  obtain ⟨f, h1, j', r', G', h2, h3, h4, h5, h6, h7⟩ := fin t G1 (by unfold edgeStep; rw [if_neg hx]) hI1
  exact ⟨f, h1, j', r', G', h2, h3, h4, h5, h6, Eq.trans (by kernel_rfl) h7⟩
 have hx := of_decide_eq_true hx
 have hxt : x.fNext = (x.fNext.toNat : Int) := by omega
 have hxl : x.fNext.toNat < N := by omega
 refine Ht.rg (hxO n) (Ops.sg 5 5 ?_)
 refine Ops.on 6 (fun h0 e0 => ldc (i := ti3) (h := h0) (r := G.length) (off := 3) (cs := cI11 x) (d := dI x.fNext) (hq_of (g := G1) (e0.trans (by kernel_rfl)) b1) (by rfl)) ?_
 refine Ops.sg 1 7 ?_
 refine Ops.on 8 (fun h0 e0 => ixB (h := h0) (r := 1) (N := N * N) (i := i * N + x.fNext.toNat) (hq_of (g := G1) (e0.trans (by kernel_rfl)) hI1.tab) (wmul (by omega) hiN hxl rfl hxt) (ix_lt hiN hxl)) ?_
 refine Ops.on 9 (fun h0 e0 => stB (h := h0) (r := 1) (i := i * N + x.fNext.toNat) (x := true) (hq_of (g := G1) (e0.trans (by kernel_rfl)) hI1.tab) (by rw [htl]; exact ix_lt hiN hxl)) ?_
 refine Ops.dn (blkH.n (seqH.n ?_))
 refine Ht.forget k11i (Ht.st (σ' := S11i cs N i c (j : Int) (G1.set 1 (bO (t.set (i * N + x.fNext.toNat) true)))) (by kernel_rfl) (Ht.rg (hxO n) (Ops.sg 2 2 (Ops.dn ?_))))
 obtain ⟨f, h1, j', r', G', h2, h3, h4, h5, h6, h7⟩ := fin (t.set (i * N + x.fNext.toNat) true) (G1.set 1 (bO (t.set (i * N + x.fNext.toNat) true))) (by unfold edgeStep; rw [if_pos hx]) (hI1.upd _)
 exact ⟨f, h1, j', r', G', h2, h3, h4, h5, h6, Eq.trans (by kernel_rfl) h7⟩
abbrev S11c (cs : List S55) (N : Nat) (i : Int) (G : List AObj) : St := Sm 101 [(3, dI (N : Int)), (4, sD 1 (N * N)), (21, .v (vP e55 cs)), (22, dI (N : Int)), (23, dI i)] G
theorem classes11 (n : Nat) (cs : List S55) (N : Nat) (hN : N = cs.length) (hcs : OkC cs) (t0 : List Bool) (h0 : t0.length = N * N) {Q : Post}
  (hQ : ∀ G σ, InvL cs (edgesC N 0 cs t0) G → (edgesC N 0 cs t0).length = N * N → Abs.forget [3, 4] σ = Sm 101 [(3, dI (N : Int)), (4, sD 1 (N * N))] G → Q (.exit 0) σ)
  (G : List AObj) (hG : InvL cs t0 G) : Ht False Proofs.Tryz.prog (cL (cR S1_11)) (S11c cs N 0 G) Q := by
 have hfew := hcs.few
 refine Ht.loop (fun k σ => ∃ (i : Nat) (t : List Bool) (G : List AObj), k = N - i ∧ i ≤ N ∧ t.length = N * N ∧ edgesC N i (cs.drop i) t = edgesC N 0 cs t0 ∧ InvL cs t G ∧ Abs.forget [3, 4, 21, 22, 23] σ = S11c cs N (i : Int) G) N (by kernel_rfl) ⟨0, t0, G, rfl, Nat.zero_le _, h0, rfl, hG, by kernel_rfl⟩ ?_
 clear hG G
 rintro k σ ⟨i, t, G, rfl, hi, htl, hps, hG, hσ⟩
 refine Ht.forget [3, 4, 21, 22, 23] (Ht.st hσ ?_)
 clear hσ
 refine Ht.sq (Ht.rg (hxO n) (Ops.sg 1 1 (Ops.dn (seqH.n (Ht.sq ?_)))))
 refine Ht.cond (decide ((i : Int) < (N : Int))) (by kernel_rfl) (by kernel_rfl) (fun hc => ?_) (fun hc => ?_)
 case refine_2 =>
  have hc := of_decide_eq_false hc
  refine Ht.exit (id := 0) (by kernel_rfl) ?_
  show Q (.exit 0) _
  rw [List.drop_eq_nil_of_le (by omega)] at hps
  have hps : t = edgesC N 0 cs t0 := hps
  rw [hps] at hG htl
  exact hQ G _ hG htl (by kernel_rfl)
 have hc := of_decide_eq_true hc
 have hi : i < N := by omega
 have hic : i < cs.length := by omega
 have hw2 : w64 ((i : Int) + 1) = ((i + 1 : Nat) : Int) := by rw [w64_id ⟨by omega, by omega⟩]; omega
 obtain ⟨c, hx⟩ : ∃ x, cs[i]? = some x := ⟨_, List.getElem?_eq_getElem hic⟩
 have hix : idx cs (i : Int) = some c := by simp [idx, hx]
 have hmem := List.mem_of_getElem? hx
 have hdr : cs.drop i = c :: cs.drop (i + 1) := by
  rw [List.drop_eq_getElem_cons hic]
  rw [List.getElem?_eq_getElem hic] at hx
  rw [Option.some.inj hx]
 rw [hdr] at hps
 have hps : edgesC N (i + 1) (cs.drop (i + 1)) (edgesI N i c.fItems t) = edgesC N 0 cs t0 := hps
 refine Ht.sk (seqH.n (Ht.sq (Ht.bk 1 (Ht.sq ?_))))
 have z1 : (G ++ [AObj.cells zC11])[G.length]? = some (.cells zC11) := by rw [List.getElem?_append_right (Nat.le_refl _), Nat.sub_self]; rfl
 refine Ht.rg (hxO n) (Ops.sg 1 1 ?_)
 refine Ops.on 2 (fun h0 e0 => ix_r (T := T) h0 22 56 2 .plain e55 cs (i : Int) c hix (by kernel_rfl) (by kernel_rfl) (fun _ => rfl)) ?_
 refine Ops.sg 3 5 ?_
 refine Ops.on 6 (fun h0 e0 => stc (i := ti56) (h := h0) (r := G.length) (off := 0) (cs := zC11) (cs' := cC11 c) (x := .v (e55 c)) (hq_of (g := G ++ [AObj.cells zC11]) (e0.trans (by kernel_rfl)) z1) (by rfl) (by rfl)) ?_
 refine Ops.dn (seqH.n ?_)
 obtain ⟨G1, hG1⟩ : ∃ G1, (G ++ [AObj.cells zC11]).set G.length (AObj.cells (cC11 c)) = G1 := ⟨_, rfl⟩
 refine Ht.forget [3, 4, 5, 6, 21, 22, 23] (Ht.st (σ' := Sm 101 [(3, dI (N : Int)), (4, sD 1 (N * N)), (5, dI (i : Int)), (6, .ptr G.length 0), (21, .v (vP e55 cs)), (22, dI (N : Int)), (23, dI (i : Int))] ((G ++ [AObj.cells zC11]).set G.length (AObj.cells (cC11 c)))) (by kernel_rfl) ?_)
 rw [hG1]
 have b1 : G1[G.length]? = some (.cells (cC11 c)) := by rw [← hG1]; exact List.getElem?_set_self (by simp)
 have hI1 : InvL cs t G1 := by
  rw [← hG1]
  have g1 := lt_of_getElem? hG.tab
  exact (hG.app _).put (by omega) _
 refine Ht.sq (Ht.rg (hxO n) (Ops.sg 1 1 ?_))
 refine Ops.on 2 (fun h0 e0 => ldc (i := ti54) (h := h0) (r := G.length) (off := 1) (cs := cC11 c) (d := .v (vP e57 c.fItems)) (hq_of (g := G1) (e0.trans (by kernel_rfl)) b1) (by rfl)) ?_
 refine Ops.on 3 (fun h0 e0 => len_r (T := T) h0 54 58 .plain e57 c.fItems (by kernel_rfl)) ?_
 refine Ops.sg 1 4 (Ops.dn (seqH.n (Ht.bk 2 ?_)))
 refine Ht.forget k11i (Ht.st (σ' := S11i cs N i c 0 G1) (by kernel_rfl) ?_)
 refine items11 n cs N hN hcs i hi c hmem t htl (fun G' σ' hG' hσ' => ?_) G1 hI1
 refine blkH.x (blkH.n (seqH.n ?_))
 refine Ht.forget [3, 4, 21, 22, 23] (Ht.st hσ' (Ht.rg (hxO n) (Ops.sg 2 2 (Ops.dn ?_))))
 refine ⟨N - (i + 1), by omega, i + 1, edgesI N i c.fItems t, G', rfl, hi, by rw [edgesI_len]; exact htl, hps, hG', ?_⟩
 have e : ∀ y : Int, y = ((i + 1 : Nat) : Int) → S11c cs N y G' = S11c cs N ((i + 1 : Nat) : Int) G' := fun y hy => by rw [hy]
 refine Eq.trans ?_ (e _ hw2)
 kernel_rfl
set_option maxHeartbeats 2000000
noncomputable abbrev B2_11 : Code := cL (cL (cR S2_11))
noncomputable abbrev X2_11 : Code := cL (cL (cR (cR B2_11)))
noncomputable abbrev B3_11 : Code := cL (cL (cR (cR X2_11)))
noncomputable abbrev X3_11 : Code := cL (cL (cR (cR B3_11)))
abbrev k11j : List Nat := [3, 4, 9, 10, 48, 49, 52, 53, 56, 57]
abbrev S11j (N k i : Nat) (j : Int) (G : List AObj) : St := Sm 101 [(3, dI (N : Int)), (4, sD 1 (N * N)), (9, dI (k : Int)), (10, dI (i : Int)), (48, dI (N : Int)), (49, dI (k : Int)), (52, dI (N : Int)), (53, dI (i : Int)), (56, dI (N : Int)), (57, dI j)] G
def LJ11 (cs : List S55) (N k i : Nat) (goal : List Bool) : Nat → St → Prop := fun f σ => ∃ (j : Nat) (t : List Bool) (G : List AObj), f = N - j ∧ j ≤ N ∧ t.length = N * N ∧ (List.range' j (N - j)).foldl (wStep N k i) t = goal ∧ InvL cs t G ∧ Abs.forget k11j σ = S11j N k i (j : Int) G
theorem j11 (n : Nat) (cs : List S55) (N : Nat) (hN : N ≤ 1000) (k i : Nat) (hk : k < N) (hi : i < N) (t0 : List Bool) (h0 : t0.length = N * N) {Q : Post}
  (hQ : ∀ G σ, InvL cs (wI N k t0 i) G → (wI N k t0 i).length = N * N → Abs.forget [3, 4, 9, 48, 49, 52, 53] σ = Sm 101 [(3, dI (N : Int)), (4, sD 1 (N * N)), (9, dI (k : Int)), (48, dI (N : Int)), (49, dI (k : Int)), (52, dI (N : Int)), (53, dI (i : Int))] G → Q (.exit 8) σ)
  (G : List AObj) (hG : InvL cs t0 G) : Ht False Proofs.Tryz.prog (cL (cR (cR X3_11))) (S11j N k i 0 G) Q := by
 refine Ht.loop (LJ11 cs N k i (wI N k t0 i)) N (by kernel_rfl) ⟨0, t0, G, rfl, Nat.zero_le _, h0, by unfold wI; rw [List.range_eq_range', Nat.sub_zero], hG, by kernel_rfl⟩ ?_
 clear hG G
 rintro f σ ⟨j, t, G, rfl, hj, htl, hps, hG, hσ⟩
 refine Ht.forget k11j (Ht.st hσ ?_)
 clear hσ
 refine Ht.sq (Ht.rg (hxO n) (Ops.sg 1 1 (Ops.dn (seqH.n (Ht.sq ?_)))))
 refine Ht.cond (decide ((j : Int) < (N : Int))) (by kernel_rfl) (by kernel_rfl) (fun hc1 => ?_) (fun hc1 => ?_)
 case refine_2 =>
  have hc1 := of_decide_eq_false hc1
  refine Ht.exit (id := 8) (by kernel_rfl) ?_
  show Q (.exit 8) _
  rw [show N - j = 0 by omega] at hps
  have hps : t = wI N k t0 i := hps
  rw [hps] at hG htl
  exact hQ G _ hG htl (by kernel_rfl)
 have hc1 := of_decide_eq_true hc1
 have hj : j < N := by omega
 have hw2 : w64 ((j : Int) + 1) = ((j + 1 : Nat) : Int) := by rw [w64_id ⟨by omega, by omega⟩]; omega
 rw [show N - j = (N - (j + 1)) + 1 by omega, List.range'_succ, List.foldl_cons] at hps
 refine Ht.sk (seqH.n (Ht.sq (Ht.bk 9 (Ht.sq (Ht.rg (hxO n) (Ops.sg 2 2 (Ops.dn (seqH.n ?_))))))))
 refine Ht.forget (11 :: k11j) (Ht.st (σ' := Sm 101 [(3, dI (N : Int)), (4, sD 1 (N * N)), (9, dI (k : Int)), (10, dI (i : Int)), (11, dI (j : Int)), (48, dI (N : Int)), (49, dI (k : Int)), (52, dI (N : Int)), (53, dI (i : Int)), (56, dI (N : Int)), (57, dI (j : Int))] G) (by kernel_rfl) ?_)
 have fin : ∀ (t' : List Bool) (G' : List AObj), wStep N k i t j = t' → InvL cs t' G' → lpH (LJ11 cs N k i (wI N k t0 i)) (N - j) Q .normal (S11j N k i (w64 ((j : Int) + 1)) G') := by
  intro t' G' hs hI
  refine ⟨N - (j + 1), by omega, j + 1, t', G', rfl, hj, ?_, by rw [← hs]; exact hps, hI, ?_⟩
  ·rw [← hs]; unfold wStep; split <;> simp [htl]
  rw [hw2]
  kernel_rfl
 have skipped : wStep N k i t j = t → ∀ σ, Abs.forget k11j σ = S11j N k i (j : Int) G → Ht False Proofs.Tryz.prog (cR (cR (cR (cL (cL (cR (cR X3_11))))))) σ (lpH (LJ11 cs N k i (wI N k t0 i)) (N - j) Q) := by
  intro hs σ hσ
  refine Ht.forget k11j (Ht.st hσ (Ht.rg (hxO n) (Ops.sg 2 2 (Ops.dn ?_))))
  obtain ⟨f, h1, j', r', G', h2, h3, h4, h5, h6, h7⟩ := fin t G hs hG
  exact ⟨f, h1, j', r', G', h2, h3, h4, h5, h6, Eq.trans (by kernel_rfl) h7⟩
 have g1 : t[i * N + k]? = some (on t (i * N + k)) := on_get (by rw [htl]; exact ix_lt hi hk)
 have g2 : t[k * N + j]? = some (on t (k * N + j)) := on_get (by rw [htl]; exact ix_lt hk hj)
 refine Ht.sq ?_
 cases hx : on t (i * N + k) with
 | false =>
  rw [hx] at g1
  refine Ht.rg (hxO n) (Ops.sg 6 6 ?_)
  refine Ops.on 7 (fun h0 e0 => ixB (h := h0) (r := 1) (N := N * N) (i := i * N + k) (hq_of (g := G) (e0.trans (by kernel_rfl)) hG.tab) (wmul hN hi hk rfl rfl) (ix_lt hi hk)) ?_
  refine Ops.on 8 (fun h0 e0 => ldB (h := h0) (r := 1) (i := i * N + k) (hq_of (g := G) (e0.trans (by kernel_rfl)) hG.tab) g1) ?_
  refine Ops.sg 10 18 (Ops.dn (seqH.n ?_))
  refine Ht.cond false (by kernel_rfl) (by kernel_rfl) (fun hc => nomatch hc) (fun _ => ?_)
  refine Ht.sk (blkH.n (seqH.n ?_))
  exact skipped (by unfold wStep; rw [hx]; rfl) _ (by kernel_rfl)
 | true =>
  rw [hx] at g1
  refine Ht.rg (hxO n) (Ops.sg 6 6 ?_)
  refine Ops.on 7 (fun h0 e0 => ixB (h := h0) (r := 1) (N := N * N) (i := i * N + k) (hq_of (g := G) (e0.trans (by kernel_rfl)) hG.tab) (wmul hN hi hk rfl rfl) (ix_lt hi hk)) ?_
  refine Ops.on 8 (fun h0 e0 => ldB (h := h0) (r := 1) (i := i * N + k) (hq_of (g := G) (e0.trans (by kernel_rfl)) hG.tab) g1) ?_
  refine Ops.sg 7 15 ?_
  refine Ops.on 16 (fun h0 e0 => ixB (h := h0) (r := 1) (N := N * N) (i := k * N + j) (hq_of (g := G) (e0.trans (by kernel_rfl)) hG.tab) (wmul hN hk hj rfl rfl) (ix_lt hk hj)) ?_
  refine Ops.on 17 (fun h0 e0 => ldB (h := h0) (r := 1) (i := k * N + j) (hq_of (g := G) (e0.trans (by kernel_rfl)) hG.tab) g2) ?_
  refine Ops.sg 1 18 (Ops.dn (seqH.n ?_))
  refine Ht.cond (on t (k * N + j)) (by kernel_rfl) (by kernel_rfl) (fun hy => ?_) (fun hy => ?_)
  case refine_2 =>
   refine Ht.sk (blkH.n (seqH.n ?_))
   exact skipped (by unfold wStep; rw [hx, hy]; rfl) _ (by kernel_rfl)
  refine Ht.rg (hxO n) (Ops.sg 6 6 ?_)
  refine Ops.on 7 (fun h0 e0 => ixB (h := h0) (r := 1) (N := N * N) (i := i * N + j) (hq_of (g := G) (e0.trans (by kernel_rfl)) hG.tab) (wmul hN hi hj rfl rfl) (ix_lt hi hj)) ?_
  refine Ops.on 8 (fun h0 e0 => stB (h := h0) (r := 1) (i := i * N + j) (x := true) (hq_of (g := G) (e0.trans (by kernel_rfl)) hG.tab) (by rw [htl]; exact ix_lt hi hj)) ?_
  refine Ops.dn (blkH.n (seqH.n ?_))
  refine Ht.forget k11j (Ht.st (σ' := S11j N k i (j : Int) (G.set 1 (bO (t.set (i * N + j) true)))) (by kernel_rfl) (Ht.rg (hxO n) (Ops.sg 2 2 (Ops.dn ?_))))
  obtain ⟨f, h1, j', r', G', h2, h3, h4, h5, h6, h7⟩ := fin (t.set (i * N + j) true) (G.set 1 (bO (t.set (i * N + j) true))) (by unfold wStep; rw [hx, hy]; rfl) (hG.upd _)
  exact ⟨f, h1, j', r', G', h2, h3, h4, h5, h6, Eq.trans (by kernel_rfl) h7⟩
abbrev S11u (N k : Nat) (i : Int) (G : List AObj) : St := Sm 101 [(3, dI (N : Int)), (4, sD 1 (N * N)), (9, dI (k : Int)), (48, dI (N : Int)), (49, dI (k : Int)), (52, dI (N : Int)), (53, dI i)] G
theorem i11 (n : Nat) (cs : List S55) (N : Nat) (hN : N ≤ 1000) (k : Nat) (hk : k < N) (t0 : List Bool) (h0 : t0.length = N * N) {Q : Post}
  (hQ : ∀ G σ, InvL cs (wK N t0 k) G → (wK N t0 k).length = N * N → Abs.forget [3, 4, 48, 49] σ = Sm 101 [(3, dI (N : Int)), (4, sD 1 (N * N)), (48, dI (N : Int)), (49, dI (k : Int))] G → Q (.exit 6) σ)
  (G : List AObj) (hG : InvL cs t0 G) : Ht False Proofs.Tryz.prog (cL (cR (cR X2_11))) (S11u N k 0 G) Q := by
 refine Ht.loop (fun f σ => ∃ (i : Nat) (t : List Bool) (G : List AObj), f = N - i ∧ i ≤ N ∧ t.length = N * N ∧ (List.range' i (N - i)).foldl (wI N k) t = wK N t0 k ∧ InvL cs t G ∧ Abs.forget [3, 4, 9, 48, 49, 52, 53] σ = S11u N k (i : Int) G) N (by kernel_rfl) ⟨0, t0, G, rfl, Nat.zero_le _, h0, by unfold wK; rw [List.range_eq_range', Nat.sub_zero], hG, by kernel_rfl⟩ ?_
 clear hG G
 rintro f σ ⟨i, t, G, rfl, hi, htl, hps, hG, hσ⟩
 refine Ht.forget [3, 4, 9, 48, 49, 52, 53] (Ht.st hσ ?_)
 clear hσ
 refine Ht.sq (Ht.rg (hxO n) (Ops.sg 1 1 (Ops.dn (seqH.n (Ht.sq ?_)))))
 refine Ht.cond (decide ((i : Int) < (N : Int))) (by kernel_rfl) (by kernel_rfl) (fun hc1 => ?_) (fun hc1 => ?_)
 case refine_2 =>
  have hc1 := of_decide_eq_false hc1
  refine Ht.exit (id := 6) (by kernel_rfl) ?_
  show Q (.exit 6) _
  rw [show N - i = 0 by omega] at hps
  have hps : t = wK N t0 k := hps
  rw [hps] at hG htl
  exact hQ G _ hG htl (by kernel_rfl)
 have hc1 := of_decide_eq_true hc1
 have hi : i < N := by omega
 have hw2 : w64 ((i : Int) + 1) = ((i + 1 : Nat) : Int) := by rw [w64_id ⟨by omega, by omega⟩]; omega
 rw [show N - i = (N - (i + 1)) + 1 by omega, List.range'_succ, List.foldl_cons] at hps
 refine Ht.sk (seqH.n (Ht.sq (Ht.bk 7 (Ht.sq (Ht.rg (hxO n) (Ops.sg 2 2 (Ops.dn (seqH.n (Ht.sq (Ht.rg (hxO n) (Ops.sg 2 2 (Ops.dn (seqH.n (Ht.bk 8 ?_))))))))))))))
 refine Ht.forget k11j (Ht.st (σ' := S11j N k i 0 G) (by kernel_rfl) ?_)
 refine j11 n cs N hN k i hk hi t htl (fun G' σ' hG' hl' hσ' => ?_) G hG
 refine blkH.x (blkH.n (seqH.n ?_))
 refine Ht.forget [3, 4, 9, 48, 49, 52, 53] (Ht.st hσ' (Ht.rg (hxO n) (Ops.sg 2 2 (Ops.dn ?_))))
 refine ⟨N - (i + 1), by omega, i + 1, wI N k t i, G', rfl, hi, hl', hps, hG', ?_⟩
 have e : ∀ y : Int, y = ((i + 1 : Nat) : Int) → S11u N k y G' = S11u N k ((i + 1 : Nat) : Int) G' := fun y hy => by rw [hy]
 refine Eq.trans ?_ (e _ hw2)
 kernel_rfl
abbrev S11k (N : Nat) (k : Int) (G : List AObj) : St := Sm 101 [(3, dI (N : Int)), (4, sD 1 (N * N)), (48, dI (N : Int)), (49, dI k)] G
theorem k11 (n : Nat) (cs : List S55) (N : Nat) (hN : N ≤ 1000) (t0 : List Bool) (h0 : t0.length = N * N) {Q : Post}
  (hQ : ∀ G σ, InvL cs ((List.range N).foldl (wK N) t0) G → ((List.range N).foldl (wK N) t0).length = N * N → Abs.forget [3, 4] σ = Sm 101 [(3, dI (N : Int)), (4, sD 1 (N * N))] G → Q (.exit 4) σ)
  (G : List AObj) (hG : InvL cs t0 G) : Ht False Proofs.Tryz.prog (cL (cR S2_11)) (S11k N 0 G) Q := by
 refine Ht.loop (fun f σ => ∃ (k : Nat) (t : List Bool) (G : List AObj), f = N - k ∧ k ≤ N ∧ t.length = N * N ∧ (List.range' k (N - k)).foldl (wK N) t = (List.range N).foldl (wK N) t0 ∧ InvL cs t G ∧ Abs.forget [3, 4, 48, 49] σ = S11k N (k : Int) G) N (by kernel_rfl) ⟨0, t0, G, rfl, Nat.zero_le _, h0, by rw [List.range_eq_range', Nat.sub_zero], hG, by kernel_rfl⟩ ?_
 clear hG G
 rintro f σ ⟨i, t, G, rfl, hi, htl, hps, hG, hσ⟩
 refine Ht.forget [3, 4, 48, 49] (Ht.st hσ ?_)
 clear hσ
 refine Ht.sq (Ht.rg (hxO n) (Ops.sg 1 1 (Ops.dn (seqH.n (Ht.sq ?_)))))
 refine Ht.cond (decide ((i : Int) < (N : Int))) (by kernel_rfl) (by kernel_rfl) (fun hc1 => ?_) (fun hc1 => ?_)
 case refine_2 =>
  have hc1 := of_decide_eq_false hc1
  refine Ht.exit (id := 4) (by kernel_rfl) ?_
  show Q (.exit 4) _
  rw [show N - i = 0 by omega] at hps
  have hps : t = (List.range N).foldl (wK N) t0 := hps
  rw [hps] at hG htl
  exact hQ G _ hG htl (by kernel_rfl)
 have hc1 := of_decide_eq_true hc1
 have hi : i < N := by omega
 have hw2 : w64 ((i : Int) + 1) = ((i + 1 : Nat) : Int) := by rw [w64_id ⟨by omega, by omega⟩]; omega
 rw [show N - i = (N - (i + 1)) + 1 by omega, List.range'_succ, List.foldl_cons] at hps
 refine Ht.sk (seqH.n (Ht.sq (Ht.bk 5 (Ht.sq (Ht.rg (hxO n) (Ops.sg 2 2 (Ops.dn (seqH.n (Ht.sq (Ht.rg (hxO n) (Ops.sg 2 2 (Ops.dn (seqH.n (Ht.bk 6 ?_))))))))))))))
 refine Ht.forget [3, 4, 9, 48, 49, 52, 53] (Ht.st (σ' := S11u N i 0 G) (by kernel_rfl) ?_)
 refine i11 n cs N hN i hi t htl (fun G' σ' hG' hl' hσ' => ?_) G hG
 refine blkH.x (blkH.n (seqH.n ?_))
 refine Ht.forget [3, 4, 48, 49] (Ht.st hσ' (Ht.rg (hxO n) (Ops.sg 2 2 (Ops.dn ?_))))
 refine ⟨N - (i + 1), by omega, i + 1, wK N t i, G', rfl, hi, hl', hps, hG', ?_⟩
 have e : ∀ y : Int, y = ((i + 1 : Nat) : Int) → S11k N y G' = S11k N ((i + 1 : Nat) : Int) G' := fun y hy => by rw [hy]
 refine Eq.trans ?_ (e _ hw2)
 kernel_rfl
def P11 (b : Bool) : Post := fun e σ => (e = .normal ∨ e = .ret) ∧ ∃ d, resultsD T σ (resOf Proofs.Tryz.prog 11) = some d ∧ frz σ.heap 15 d = some (vB b)
theorem P11.of {b : Bool} {σ : St} (h4 : σ.tmps.getD 2 .undef = dB b) : P11 b .ret σ := by
 have hr : resOf Proofs.Tryz.prog 11 = [.tmp 2] := by kernel_rfl
 exact ⟨.inr rfl, dB b, by rw [hr]; simp only [resultsD, allM, resultD, h4], rfl⟩
abbrev S11d (N : Nat) (i : Int) (G : List AObj) : St := Sm 101 [(3, dI (N : Int)), (4, sD 1 (N * N)), (88, dI (N : Int)), (89, dI i)] G
theorem diag11 (n : Nat) (cs : List S55) (N : Nat) (hN : N ≤ 1000) (t : List Bool) (ht : t.length = N * N) (G : List AObj) (hG : InvL cs t G) :
  Ht False Proofs.Tryz.prog S3_11 (Sm 101 [(3, dI (N : Int)), (4, sD 1 (N * N))] G) (P11 ((List.range N).any fun i => on t (i * N + i))) := by
 refine Ht.sq (Ht.sq (Ht.rg (hxO n) (Ops.sg 2 2 (Ops.dn (seqH.n (Ht.bk 10 ?_))))))
 refine Ht.loop (fun f σ => ∃ (i : Nat), f = N - i ∧ i ≤ N ∧ (List.range' i (N - i)).any (fun i => on t (i * N + i)) = ((List.range N).any fun i => on t (i * N + i)) ∧ Abs.forget [3, 4, 88, 89] σ = S11d N (i : Int) G) N (by kernel_rfl) ⟨0, rfl, Nat.zero_le _, by rw [List.range_eq_range', Nat.sub_zero], by kernel_rfl⟩ ?_
 rintro f σ ⟨i, rfl, hi, hps, hσ⟩
 refine Ht.forget [3, 4, 88, 89] (Ht.st hσ ?_)
 clear hσ
 refine Ht.sq (Ht.rg (hxO n) (Ops.sg 1 1 (Ops.dn (seqH.n (Ht.sq ?_)))))
 refine Ht.cond (decide ((i : Int) < (N : Int))) (by kernel_rfl) (by kernel_rfl) (fun hc1 => ?_) (fun hc1 => ?_)
 case refine_2 =>
  have hc1 := of_decide_eq_false hc1
  refine Ht.exit (id := 10) (by kernel_rfl) ?_
  show Ht False Proofs.Tryz.prog (cR S3_11) _ (P11 _)
  rw [show N - i = 0 by omega] at hps
  refine Ht.sq (Ht.rg (hxO n) (Ops.sg 1 1 (Ops.dn (seqH.n (Ht.rt ?_)))))
  rw [← hps]
  exact P11.of (by kernel_rfl)
 have hc1 := of_decide_eq_true hc1
 have hi : i < N := by omega
 have hw2 : w64 ((i : Int) + 1) = ((i + 1 : Nat) : Int) := by rw [w64_id ⟨by omega, by omega⟩]; omega
 have g1 : t[i * N + i]? = some (on t (i * N + i)) := on_get (by rw [ht]; exact ix_lt hi hi)
 rw [show N - i = (N - (i + 1)) + 1 by omega, List.range'_succ, List.any_cons] at hps
 refine Ht.sk (seqH.n (Ht.sq (Ht.bk 11 (Ht.sq (Ht.rg (hxO n) (Ops.sg 2 2 (Ops.dn (seqH.n (Ht.sq (Ht.rg (hxO n) (Ops.sg 6 6 ?_)))))))))))
 refine Ops.on 7 (fun h0 e0 => ixB (h := h0) (r := 1) (N := N * N) (i := i * N + i) (hq_of (g := G) (e0.trans (by kernel_rfl)) hG.tab) (wmul hN hi hi rfl rfl) (ix_lt hi hi)) ?_
 refine Ops.on 8 (fun h0 e0 => ldB (h := h0) (r := 1) (i := i * N + i) (hq_of (g := G) (e0.trans (by kernel_rfl)) hG.tab) g1) ?_
 refine Ops.dn (seqH.n ?_)
 refine Ht.cond (on t (i * N + i)) (by kernel_rfl) (by kernel_rfl) (fun hx => ?_) (fun hx => ?_)
 ·refine Ht.sq (Ht.rg (hxO n) (Ops.sg 1 1 (Ops.dn (seqH.n (Ht.rt ?_)))))
  show P11 _ .ret _
  rw [hx, Bool.true_or] at hps
  rw [← hps]
  exact P11.of (by kernel_rfl)
 refine Ht.sk (blkH.n (seqH.n ?_))
 refine Ht.forget [3, 4, 88, 89] (Ht.st (σ' := S11d N (i : Int) G) (by kernel_rfl) (Ht.rg (hxO n) (Ops.sg 2 2 (Ops.dn ?_))))
 refine ⟨N - (i + 1), by omega, i + 1, rfl, hi, by rw [hx, Bool.false_or] at hps; exact hps, ?_⟩
 have e : ∀ y : Int, y = ((i + 1 : Nat) : Int) → S11d N y G = S11d N ((i + 1 : Nat) : Int) G := fun y hy => by rw [hy]
 refine Eq.trans ?_ (e _ hw2)
 kernel_rfl
def loopsT (cs : List S55) : List Bool := (List.range cs.length).foldl (wK cs.length) (edgesC cs.length 0 cs (List.replicate (cs.length * cs.length) false))
def loopsB (cs : List S55) : Bool := (List.range cs.length).any fun i => on (loopsT cs) (i * cs.length + i)
theorem loops11 (n : Nat) (l : S23) (hcs : OkC l.fClasses) :
  Ht False Proofs.Tryz.prog C11 (startIn Proofs.Tryz.prog 11 [.v (e23 l)] []) (P11 (loopsB l.fClasses)) := by
 have hfew := hcs.few
 obtain ⟨cs⟩ := l
 have hcs : OkC cs := hcs
 have hfew : cs.length ≤ 1000 := hfew
 show Ht False Proofs.Tryz.prog C11 (startIn Proofs.Tryz.prog 11 [.v (.agg [vP e55 cs])] []) (P11 (loopsB cs))
 have hw : w64 ((cs.length : Int) * (cs.length : Int)) = ((cs.length * cs.length : Nat) : Int) := by
  have h3 : (cs.length : Int) * (cs.length : Int) = ((cs.length * cs.length : Nat) : Int) := by rw [Int.natCast_mul]
  have h2 : cs.length * cs.length ≤ 1000 * 1000 := Nat.mul_le_mul hfew hfew
  rw [h3, w64_id ⟨by omega, by omega⟩]
 have hsq : cs.length * cs.length ≤ 1000 * 1000 := Nat.mul_le_mul hfew hfew
 refine Ht.sq (Ht.rg (hxO n) (Ops.sg 2 2 (Ops.dn (seqH.n ?_))))
 refine Ht.forget [1] (Ht.st (σ' := Sm 101 [(1, .ptr 0 0)] [.cells [.v (vP e55 cs)]]) (by kernel_rfl) (Ht.sq (Ht.rg (hxO n) (Ops.sg 2 2 ?_))))
 refine Ops.on 3 (fun h0 e0 => len_r (T := T) h0 22 56 .plain e55 cs (by kernel_rfl)) ?_
 refine Ops.sg 1 4 (Ops.dn (seqH.n ?_))
 refine Ht.forget [1, 3] (Ht.st (σ' := Sm 101 [(1, .ptr 0 0), (3, dI (cs.length : Int))] [.cells [.v (vP e55 cs)]]) (by kernel_rfl) (Ht.sq (Ht.rg (hxO n) (Ops.sg 3 3 ?_))))
 refine Ops.on 4 (fun h0 e0 => mk79 h0 (N := cs.length * cs.length) hw (by omega)) ?_
 refine Ops.sg 1 5 (Ops.dn (seqH.n ?_))
 refine Ht.forget [1, 3, 4] (Ht.st (σ' := Sm 101 [(1, .ptr 0 0), (3, dI (cs.length : Int)), (4, sD 1 (cs.length * cs.length))] [.cells [.v (vP e55 cs)], bO (List.replicate (cs.length * cs.length) false)]) (by kernel_rfl) ?_)
 have hI : InvL cs (List.replicate (cs.length * cs.length) false) [.cells [.v (vP e55 cs)], bO (List.replicate (cs.length * cs.length) false)] := ⟨rfl, rfl⟩
 generalize ([.cells [.v (vP e55 cs)], bO (List.replicate (cs.length * cs.length) false)] : List AObj) = G at hI
 refine Ht.sq (Ht.sq (Ht.rg (hxO n) (Ops.sg 1 1 ?_)))
 refine Ops.on 2 (fun h0 e0 => ldc (i := ti22) (h := h0) (r := 0) (off := 0) (cs := [.v (vP e55 cs)]) (d := .v (vP e55 cs)) (hq_of (g := G) (e0.trans (by kernel_rfl)) hI.lex) (by rfl)) ?_
 refine Ops.on 3 (fun h0 e0 => len_r (T := T) h0 22 56 .plain e55 cs (by kernel_rfl)) ?_
 refine Ops.sg 1 4 (Ops.dn (seqH.n (Ht.bk 0 ?_)))
 refine Ht.forget [3, 4, 21, 22, 23] (Ht.st (σ' := S11c cs cs.length 0 G) (by kernel_rfl) ?_)
 refine classes11 n cs cs.length rfl hcs _ (List.length_replicate ..) (fun G1 σ1 h1 h2 h3 => ?_) G hI
 refine blkH.x (seqH.n ?_)
 refine Ht.forget [3, 4] (Ht.st h3 (Ht.sq (Ht.sq (Ht.rg (hxO n) (Ops.sg 2 2 (Ops.dn (seqH.n (Ht.bk 4 ?_))))))))
 refine Ht.forget [3, 4, 48, 49] (Ht.st (σ' := S11k cs.length 0 G1) (by kernel_rfl) ?_)
 refine k11 n cs cs.length hfew _ h2 (fun G2 σ2 g1 g2 g3 => ?_) G1 h1
 refine blkH.x (seqH.n ?_)
 refine Ht.forget [3, 4] (Ht.st g3 ?_)
 exact diag11 n cs cs.length hfew _ g2 G2 g1
end Go.Abs.Rd
namespace Go.Abs
open Go.Sort Go.Proofs
set_option linter.unusedVariables false
set_option maxRecDepth 100000
set_option maxHeartbeats 2000000
open Classical in
noncomputable def f9L (m : S29) (w : List Int) : Option Bool := if Rd.OkA m m.fStates.toNat ∧ w.length ≤ maxLen then some (Rd.accB m m.fStates.toNat w) else none
def decI : V → Option Int
 | .int .i64 a => some a
 | _ => none
theorem decI_spec {v : V} {a : Int} (h : decI v = some a) : v = eI a := by
 unfold decI at h
 split at h
 ·cases h; rfl
 ·cases h
theorem decI_e (a : Int) : decI (eI a) = some a := rfl
def decF2 : V → Option S52
 | .agg [.int .i64 a, .int .i64 b] => some ⟨a, b⟩
 | _ => none
theorem decF2_spec {v : V} {a : S52} (h : decF2 v = some a) : v = e52 a := by
 unfold decF2 at h
 split at h
 ·cases h; rfl
 ·cases h
theorem decF2_e (a : S52) : decF2 (e52 a) = some a := rfl
noncomputable def F9 : List V → Option V
 | [.agg [.int .i64 st, .sl .plain rs, .sl .plain fs], .sl .plain ws] => match allM decA rs, allM decF2 fs, allM decI ws with
  | some rs, some fs, some w => (f9L ⟨st, rs, fs⟩ w).map vB
  | _, _, _ => none
 | _ => none
theorem F9_eq (m : S29) (w : List Int) : F9 [e29 m, eL eI w] = (f9L m w).map vB := by
 show (match allM decA (m.fArcs.map e61), allM decF2 (m.fFinals.map e52), allM decI (w.map eI) with
  | some rs, some fs, some w => (f9L ⟨m.fStates, rs, fs⟩ w).map vB
  | _, _, _ => none) = _
 rw [allM_decA, En.allM_self decF2_e, En.allM_self decI_e]
theorem is9 : Is Proofs.Tryz.prog 9 := ⟨Proofs.Tryz.f9, Proofs.Tryz.func9, by kernel_rfl, by kernel_rfl⟩
theorem ora9 : OraOk False Proofs.Tryz.prog 9 F9 := by
 refine ⟨is9, fun vs r hF S w us hrel hs hg => ?_⟩
 unfold F9 at hF
 split at hF
 case h_2 => cases hF
 rename_i st rs fs ws
 split at hF
 case h_2 => cases hF
 rename_i rs' fs' w' h1 h2 h3
 have e1 := allM_dec (fun _ _ h => decA_spec h) h1
 have e2 := allM_dec (fun _ _ h => decF2_spec h) h2
 have e3 := allM_dec (fun _ _ h => decI_spec h) h3
 subst e1 e2 e3
 obtain ⟨b, ho, rfl⟩ := Option.map_eq_some_iff.1 hF
 unfold f9L at ho
 split at ho
 case isFalse => cases ho
 rename_i hok
 cases ho
 exact En.calls_of_ht (c := Rd.C9) (T := T) (N := 15) (xs := [e29 ⟨st, rs', fs'⟩, eL eI w']) (r := vB (Rd.accB ⟨st, rs', fs'⟩ st.toNat w')) Proofs.Tryz.func9 (by kernel_rfl) T_ok (Rd.accepts9 0 ⟨st, rs', fs'⟩ st.toNat hok.1 w' hok.2) hrel hs hg
open Classical in
noncomputable def f11L (l : S23) : Option Bool := if Rd.OkC l.fClasses then some (Rd.loopsB l.fClasses) else none
noncomputable def F11 : List V → Option V
 | [.agg [.sl .plain cs]] => match allM En.decC cs with
  | some l => (f11L ⟨l⟩).map vB
  | none => none
 | _ => none
theorem is11 : Is Proofs.Tryz.prog 11 := ⟨Proofs.Tryz.f11, Proofs.Tryz.func11, by kernel_rfl, by kernel_rfl⟩
theorem ora11 : OraOk False Proofs.Tryz.prog 11 F11 := by
 refine ⟨is11, fun vs r hF S w us hrel hs hg => ?_⟩
 unfold F11 at hF
 split at hF
 case h_2 => cases hF
 rename_i cs
 split at hF
 case h_2 => cases hF
 rename_i l hl
 have hes := allM_dec (fun _ _ h => En.decC_spec h) hl
 subst hes
 obtain ⟨b, ho, rfl⟩ := Option.map_eq_some_iff.1 hF
 unfold f11L at ho
 split at ho
 case isFalse => cases ho
 rename_i hok
 cases ho
 exact En.calls_of_ht (c := Rd.C11) (T := T) (N := 15) (xs := [e23 ⟨l⟩]) (r := vB (Rd.loopsB l)) Proofs.Tryz.func11 (by kernel_rfl) T_ok (Rd.loops11 0 ⟨l⟩ hok) hrel hs hg
theorem Fn_det {P : Program} {E : Env} {n f : Nat} {xs : List D} {r r' : V} (h : Fn P E n f xs r) (g : Fn P E n f xs r') : r = r' := by
 obtain ⟨d, h1, a1, a2⟩ := h
 obtain ⟨d', h2, b1, b2⟩ := g
 rw [a1] at b1
 cases b1
 rw [a2] at b2
 exact Option.some.inj b2
open Classical in
noncomputable def oraEv (P : Program) (E : Env) (f : Nat) : List V → Option V := fun xs => if h : ∃ r, ∃ n0 : Nat, ∀ n, n0 ≤ n → Fn P E n f (xs.map .v) r then some (Classical.choose h) else none
theorem oraEv_eq {P : Program} {E : Env} {f : Nat} {xs : List V} {r : V} {n0 : Nat} (h : ∀ n, n0 ≤ n → Fn P E n f (xs.map .v) r) : oraEv P E f xs = some r := by
 have hx : ∃ r, ∃ n0 : Nat, ∀ n, n0 ≤ n → Fn P E n f (xs.map .v) r := ⟨r, n0, h⟩
 unfold oraEv
 rw [dif_pos hx]
 obtain ⟨n1, h1⟩ := Classical.choose_spec hx
 rw [Fn_det (h1 (max n0 n1) (Nat.le_max_right ..)) (h (max n0 n1) (Nat.le_max_left ..))]
theorem oraEv_ok {DR : Prop} {P : Program} {E : Env} (hG : Good DR P E) {f : Nat} (hIs : Is P f) : OraOk DR P f (oraEv P E f) := by
 refine ⟨hIs, fun vs r hF S w us hrel hs hg => ?_⟩
 unfold oraEv at hF
 split at hF
 case isFalse => cases hF
 rename_i hx
 cases hF
 obtain ⟨n1, h1⟩ := Classical.choose_spec hx
 obtain ⟨d, h', a1, a2⟩ := h1 n1 (Nat.le_refl _)
 exact (pureCalls hG a1 a2).2 S w us hrel hs hg
theorem is14 : Is Proofs.Tryz.prog 14 := ⟨Proofs.Tryz.f14, Proofs.Tryz.func14, by kernel_rfl, by kernel_rfl⟩
noncomputable def oraG (f : Nat) : Option (List V → Option V) := match f with
 | 7 => some En.F7
 | 9 => some F9
 | 11 => some F11
 | 14 => some (oraEv Proofs.Tryz.prog E 14)
 | 22 => some Rd.F22
 | f => oraT f
def oraDG (f : Nat) : Option (List D → List AObj → Option (D × List AObj)) := match f with
 | 19 => some sortA
 | 21 => some compactA
 | f => oraDT f
noncomputable def EG : Env := { E with ora := oraG, oraD := oraDG }
theorem oraG_ok : OSound False Proofs.Tryz.prog EG := by
 intro f F h
 have h : oraG f = some F := h
 unfold oraG at h
 split at h
 ·cases h; exact En.ora7
 ·cases h; exact ora9
 ·cases h; exact ora11
 ·cases h; exact oraEv_ok good is14
 ·cases h; exact Rd.ora22
 ·exact ora_ok f F h
theorem oraDG_ok : DSound False Proofs.Tryz.prog EG := by
 intro f F h
 have h : oraDG f = some F := h
 unfold oraDG at h
 split at h
 ·cases h; exact sort19
 ·cases h; exact compact21
 ·exact oraD_ok f F h
theorem goodG : Good False Proofs.Tryz.prog EG := ⟨good.mixed, T_ok, names_ok, oraG_ok, oraDG_ok⟩
def f7 (m : Nat) (a0 : S23) (a1 : Int) : Option (List S40 × S31) := En.entriesL a0 a1
theorem ok7 (m : Nat) (a0 : S23) (a1 : Int) (o : List S40 × S31) (h : f7 m a0 a1 = some o) (n : Nat) (hn : m + 1 ≤ n) : Fn Proofs.Tryz.prog EG n 7 [.v (e23 a0), .v (eI a1)] (.tuple [(eL e40) o.1, e31 o.2]) := by
 obtain ⟨n, rfl⟩ : ∃ q, n = q + 1 := ⟨n - 1, by omega⟩
 refine ora_fn (F := En.F7) (xs := [e23 a0, eI a1]) (by kernel_rfl) rfl rfl ?_ rfl
 show (match allM En.decC (a0.fClasses.map e55) with
  | some l => (En.entriesL ⟨l⟩ a1).map fun (o : List S40 × S31) => V.tuple [eL e40 o.1, e31 o.2]
  | none => none) = _
 have h : En.entriesL a0 a1 = some o := h
 rw [En.allM_self En.decC_e]
 show (En.entriesL ⟨a0.fClasses⟩ a1).map (fun (o : List S40 × S31) => V.tuple [eL e40 o.1, e31 o.2]) = _
 rw [show (⟨a0.fClasses⟩ : S23) = a0 from rfl, h]
 rfl
noncomputable def f9 (m : Nat) (a0 : S29) (a1 : List Int) : Option Bool := f9L a0 a1
theorem ok9 (m : Nat) (a0 : S29) (a1 : List Int) (o : Bool) (h : f9 m a0 a1 = some o) (n : Nat) (hn : m + 1 ≤ n) : Fn Proofs.Tryz.prog EG n 9 [.v (e29 a0), .v ((eL eI) a1)] (eB o) := by
 obtain ⟨n, rfl⟩ : ∃ q, n = q + 1 := ⟨n - 1, by omega⟩
 refine ora_fn (F := F9) (xs := [e29 a0, eL eI a1]) (by kernel_rfl) rfl rfl ?_ rfl
 have h : f9L a0 a1 = some o := h
 rw [F9_eq, h]
 rfl
noncomputable def f11 (m : Nat) (a0 : S23) : Option Bool := f11L a0
theorem ok11 (m : Nat) (a0 : S23) (o : Bool) (h : f11 m a0 = some o) (n : Nat) (hn : m + 1 ≤ n) : Fn Proofs.Tryz.prog EG n 11 [.v (e23 a0)] (eB o) := by
 obtain ⟨n, rfl⟩ : ∃ q, n = q + 1 := ⟨n - 1, by omega⟩
 refine ora_fn (F := F11) (xs := [e23 a0]) (by kernel_rfl) rfl rfl ?_ rfl
 have h : f11L a0 = some o := h
 show (match allM En.decC (a0.fClasses.map e55) with
  | some l => (f11L ⟨l⟩).map vB
  | none => none) = _
 rw [En.allM_self En.decC_e]
 show (f11L ⟨a0.fClasses⟩).map vB = _
 rw [show (⟨a0.fClasses⟩ : S23) = a0 from rfl, h]
 rfl
noncomputable abbrev X57g (n : Nat) : Cx := cxOf Proofs.Tryz.prog EG 57 n
theorem ok57g (m : Nat) (a0 : ByteArray) (o : Bool) (h : f57 m a0 = some o) (n : Nat) (hn : m + 1 ≤ n) : Fn Proofs.Tryz.prog EG n 57 [.v (eS a0)] (eB o) := by
 obtain ⟨n, rfl⟩ : ∃ q, n = q + 1 := ⟨n - 1, by omega⟩
 unfold f57 at h
 refine Fn.of (by kernel_rfl) (by kernel_rfl) (by kernel_rfl) ⟨(.v (.str a0)) :: u5 [], []⟩ (by kernel_rfl) (Wp.sq (Wp.rg (Ops.sg 1 1 (Ops.dn (seqQ.n (Wp.sq (Wp.rg (Ops.sg 4 4 (Ops.dn (seqQ.n (Wp.ret (by kernel_rfl) ?_)))))))))))
 exact fnQ.r' (X57g n) (fun z => (eB z)) h (RetOk.mk' (dB (!(a0.toList == a0.toList))) (by kernel_rfl) (by kernel_rfl))
noncomputable abbrev X18g (n : Nat) : Cx := cxOf Proofs.Tryz.prog EG 18 n
theorem ok18g (m : Nat) (a0 : Int) (a1 : Int) (o : S31) (h : f18 m a0 a1 = some o) (n : Nat) (hn : m + 1 ≤ n) : Fn Proofs.Tryz.prog EG n 18 [.v (eI a0), .v (eI a1)] (e31 o) := by
 obtain ⟨n, rfl⟩ : ∃ q, n = q + 1 := ⟨n - 1, by omega⟩
 unfold f18 at h
 refine Fn.of (by kernel_rfl) (by kernel_rfl) (by kernel_rfl) ⟨(dI a0) :: (dI a1) :: u6 [], []⟩ (by kernel_rfl) (Wp.sq (Wp.rg (Ops.sg 1 1 (Ops.dn (seqQ.n (Wp.sq (Wp.rg (Ops.sg 4 4 (Ops.dn (seqQ.n (Wp.ret (by kernel_rfl) ?_)))))))))))
 exact fnQ.r' (X18g n) (fun z => (e31 z)) h (RetOk.mk' (.v (.agg [(vI a0), (vI a1)])) (by kernel_rfl) (by kernel_rfl))
noncomputable abbrev X37g (n : Nat) : Cx := cxOf Proofs.Tryz.prog EG 37 n
theorem ok37g (m : Nat) (a0 : Int) (a1 : Int) (o : S31) (h : f37 m a0 a1 = some o) (n : Nat) (hn : m + 1 ≤ n) : Fn Proofs.Tryz.prog EG n 37 [.v (eI a0), .v (eI a1)] (e31 o) := by
 obtain ⟨n, rfl⟩ : ∃ q, n = q + 1 := ⟨n - 1, by omega⟩
 unfold f37 at h
 refine Fn.of (by kernel_rfl) (by kernel_rfl) (by kernel_rfl) ⟨(dI a0) :: (dI a1) :: u6 [], []⟩ (by kernel_rfl) (Wp.sq (Wp.rg (Ops.sg 1 1 (Ops.dn (seqQ.n (Wp.sq (Wp.rg (Ops.sg 4 4 (Ops.dn (seqQ.n (Wp.ret (by kernel_rfl) ?_)))))))))))
 exact fnQ.r' (X37g n) (fun z => (e31 z)) h (RetOk.mk' (.v (.agg [(vI a0), (vI a1)])) (by kernel_rfl) (by kernel_rfl))
theorem ok38g (m : Nat) (a0 : ByteArray) (o : (Int × Int)) (h : f38 m a0 = some o) (n : Nat) (hn : m + 1 ≤ n) : Fn Proofs.Tryz.prog EG n 38 [.v (eS a0)] (.tuple [(eK .i32) o.1, eI o.2]) := by
 obtain ⟨n, rfl⟩ : ∃ q, n = q + 1 := ⟨n - 1, by omega⟩
 refine ora_fn (xs := [eS a0]) (by kernel_rfl) (by kernel_rfl) (by kernel_rfl) (F := decodeF) ?_ rfl
 cases h
 rfl
noncomputable abbrev X16g (n : Nat) : Cx := cxOf Proofs.Tryz.prog EG 16 n
theorem ok16g (m : Nat) (a0 : ByteArray) (o : ((List Int) × S31)) (h : f16 m a0 = some o) (n : Nat) (hn : m + 2 ≤ n) : FnK Proofs.Tryz.prog EG n 16 [.v (eS a0)] 1 (List.map eI o.1) (e31 o.2) := by
 obtain ⟨n, rfl⟩ : ∃ q, n = q + 1 := ⟨n - 1, by omega⟩
 unfold f16 at h
 refine FnK.of (by kernel_rfl) (by kernel_rfl) (by kernel_rfl) ⟨(.v (.str a0)) :: u40 [], []⟩ (by kernel_rfl) (Wp.sq (Wp.rg (Ops.sg 2 2 (Ops.dn (seqQ.n (Wp.sq (Wp.sq (Wp.rg (Ops.sg 3 3 (Ops.dn (seqQ.n ?_)))))))))))
 refine Wp.cnd h [0, 2, 3] 1 (by kernel_rfl) (fun h => ?_) (fun h => ?_)
 ·refine Wp.sq (Wp.rg ?_)
  obtain ⟨v1, ev1, h⟩ := bnd_some h
  refine Ops.on 1 (fun h0 e0 => (call_ok (E' := EG) (h := h0) (by kernel_rfl) (Args.v (vI 1) (eI 1) (by kernel_rfl) (Args.v (vI (-1)) (eI (-1)) (by kernel_rfl) Args.nil)) (ok37g m 1 (-1) v1 ev1 n (by omega)))) ?_
  refine Ops.sg 2 3 (Ops.dn (seqQ.n (Wp.ret (by kernel_rfl) (sqQ.r (seqQ.r ?_)))))
  exact fnQK.r' (X16g n) eI e31 h (RetOkK.nil (.agg [(vI v1.fCode), (vI v1.fIndex)]) (by kernel_rfl))
 ·refine Wp.sk (sqQ.n' (seqQ.n (Wp.sq (Wp.rg (Ops.sg 1 1 (Ops.dn (seqQ.n (Wp.sq (Wp.sq (Wp.rg (Ops.sg 1 1 (Ops.dn (seqQ.n (Wp.block' 0 [2, 3, 4] 2 (by kernel_rfl) ?_))))))))))))))
  have hLx48 : ∀ (kx29 : Nat) (v26 : (List Int)) (v27 : Int)  (ox28 : ((List Int) × S31) ⊕ ((List Int) × Int)), iter (fun (y : (List Int) × Int) => f16_B2 m a0 y.1 y.2) kx29 (v26, v27) = some ox28 → ∀ nx30, kx29 ≤ nx30 → (∀ r, ox28 = .inl r → ∀ σ, RetOkK (X16g n) (resOf Proofs.Tryz.prog 16) 1 (List.map eI r.1) (e31 r.2) σ → (seqQ (X16g n) (cR (cR (cR (cR C16)))) (fnQK (X16g n).E.T (resOf Proofs.Tryz.prog 16) 1 (List.map eI o.1) (e31 o.2))) .ret σ) → (∀ (y : (List Int) × Int) , ox28 = .inr y → (seqQ (X16g n) (cR (cR (cR (cR C16)))) (fnQK (X16g n).E.T (resOf Proofs.Tryz.prog 16) 1 (List.map eI o.1) (e31 o.2))) .normal ⟨q2 ((.v (.sl .nil (List.map eI []))) :: (.ptr 0 0) :: (appD 2 (List.map eI y.1)) :: q36 []), [b16_0, .dead, (appO 1 (List.map eI y.1))]⟩) → Lp (X16g n) [0, 2, 3, 4, 5] 2 (cL (cL (cR (cL (cR (cR (cR C16))))))) nx30 ⟨(.v (.str a0)) :: q1 ((.v (.sl .nil (List.map eI []))) :: (.ptr 0 0) :: (appD 2 (List.map eI v26)) :: (dI v27) :: q35 []), [b16_0, .dead, (appO 1 (List.map eI v26))]⟩ (blkQ (X16g n) 0 [2, 3, 4] 2 (seqQ (X16g n) (cR (cR (cR (cR C16)))) (fnQK (X16g n).E.T (resOf Proofs.Tryz.prog 16) 1 (List.map eI o.1) (e31 o.2)))) := by
   intro kx29
   induction kx29 with
   | zero => intro v26 v27  ox28 h; exact (iter_zero h).elim
   | succ kx29 ihx31 =>
    intro v26 v27  ox28 h nx30 hnx34 hrx32 hxx33
    obtain ⟨nx30, rfl⟩ : ∃ q, nx30 = q + 1 := ⟨nx30 - 1, by omega⟩
    obtain ⟨sx35, h, hsx36⟩ := iter_some h
    have h : f16_B2 m a0 v26 v27 = some sx35 := h
    unfold f16_B2 at h
    refine Lp.succ (Wp.sq (Wp.sq (Wp.rg (Ops.sg 4 4 (Ops.dn (seqQ.n ?_))))))
    refine Wp.cnd h [0, 2, 3, 4, 5] 3 (by kernel_rfl) (fun h => ?_) (fun h => ?_)
    ·refine Wp.sk (sqQ.n ⟨(.v (.str a0)) :: q1 ((.v (.sl .nil (List.map eI []))) :: (.ptr 0 0) :: (appD 3 (List.map eI v26)) :: (dI v27) :: q35 []), [b16_0, .dead, .dead, (appO 1 (List.map eI v26))]⟩ (by generalize v26 = z0; cases z0 <;> kernel_rfl) (seqQ.n (Wp.block' 1 [0, 2, 3, 4, 5] 4 (by kernel_rfl) (Wp.sq (Wp.rg (Ops.sg 2 2 ?_))))))
     obtain ⟨v37, ev37, h⟩ := bnd_some h
     refine Ops.on 3 (fun h0 e0 => (str_sub (T := T) h0 9 a0 v37 (some v27) none ev37 (by kernel_rfl))) ?_
     obtain ⟨v38, ev38, h⟩ := bnd_some h
     refine Ops.on 4 (fun h0 e0 => (call_ok (E' := EG) (h := h0) (by kernel_rfl) (Args.v (.str v37) (eS v37) (by kernel_rfl) Args.nil) (ok38g m v37 v38 ev38 n (by omega)))) ?_
     refine Ops.sg 5 9 (Ops.dn (seqQ.n (Wp.sq (Wp.sq (Wp.rg (Ops.sg 3 3 ?_))))))
     refine Ops.hv (fun KQ => ∀ (d41 d42 : D) (v43 : Bool) (v44 : Bool), f16_r1 m v26 v27 v38 v44 = some sx35 → KQ 6 ⟨(.v (.str a0)) :: q1 ((.v (.sl .nil (List.map eI []))) :: (.ptr 0 0) :: (appD 3 (List.map eI v26)) :: (dI v27) :: (.v (.int .i32 v38.1)) :: (dI v38.2) :: q8 ((.v (.tuple [(.int .i32 v38.1), (vI v38.2)])) :: (.v (.str a0)) :: (dI v27) :: (.v (.str v37)) :: (.v (.tuple [(.int .i32 v38.1), (vI v38.2)])) :: (.v (.int .i32 v38.1)) :: (dI v38.2) :: (.v (.int .i32 v38.1)) :: (dB v43) :: (dB v43) :: d41 :: d42 :: (dB v44) :: q12 [])), [b16_0, .dead, .dead, (appO 1 (List.map eI v26))]⟩) ?_ fun J16j45 => ?_
     ·intro d41 d42 v43 v44 h
      unfold f16_r1 at h
      refine Ops.dn (seqQ.n ?_)
      refine Wp.cnd h [0, 2, 3, 4, 5, 6, 7] 4 (by kernel_rfl) (fun h => ?_) (fun h => ?_)
      ·refine Wp.sq (Wp.rg (Ops.sg 1 1 ?_))
       obtain ⟨v46, ev46, h⟩ := bnd_some h
       refine Ops.on 2 (fun h0 e0 => (call_ok (E' := EG) (h := h0) (by kernel_rfl) (Args.v (vI 5) (eI 5) (by kernel_rfl) (Args.v (vI v27) (eI v27) (by kernel_rfl) Args.nil)) (ok37g m 5 v27 v46 ev46 n (by omega)))) ?_
       refine Ops.sg 2 4 (Ops.dn (seqQ.n (Wp.ret (by kernel_rfl) (sqQ.r (seqQ.r (blkQ.r ?_))))))
       cases h
       refine lpQ.r (blkQ.r ?_)
       exact hrx32 _ hsx36 _ (RetOkK.forget [0, 2, 3, 4, 5] (by kernel_rfl) (RetOkK.nil (.agg [(vI v46.fCode), (vI v46.fIndex)]) (by kernel_rfl)))
      ·refine Wp.sk (sqQ.n ⟨(.v (.str a0)) :: q1 ((.v (.sl .nil (List.map eI []))) :: (.ptr 0 0) :: (appD 4 (List.map eI v26)) :: (dI v27) :: (.v (.int .i32 v38.1)) :: (dI v38.2) :: q33 []), [b16_0, .dead, .dead, .dead, (appO 1 (List.map eI v26))]⟩ (by generalize v26 = z0; cases z0 <;> kernel_rfl) (seqQ.n (Wp.sq (Wp.rg (Ops.sg 4 4 ?_)))))
       obtain ⟨v47, ev47, h⟩ := bnd_some h
       refine Ops.on 5 (fun h0 e0 => (app_r (T := T) (g := .nil) h0 25 3 4 1 ti3 .nonfull eI v26 ([w64 v38.1]) v47 ev47 (by kernel_rfl) (by kernel_rfl) (by kernel_rfl) (by kernel_rfl) (fun _ => rfl) (hq_of e0 (by kernel_rfl)))) ?_
       refine Ops.sg 1 6 (Ops.dn (seqQ.n (Wp.rg (Ops.sg 4 4 (Ops.dn (blkQ.n ⟨(.v (.str a0)) :: q1 ((.v (.sl .nil (List.map eI []))) :: (.ptr 0 0) :: (appD 4 (List.map eI v47)) :: (dI (w64 (v27 + v38.2))) :: q35 []), [b16_0, .dead, .dead, .dead, (appO 1 (List.map eI v47))]⟩ (by generalize v47 = z0; cases z0 <;> kernel_rfl) (lpQ.n ⟨(.v (.str a0)) :: q1 ((.v (.sl .nil (List.map eI []))) :: (.ptr 0 0) :: (appD 2 (List.map eI v47)) :: (dI (w64 (v27 + v38.2))) :: q35 []), [b16_0, .dead, (appO 1 (List.map eI v47))]⟩ (by generalize v47 = z0; cases z0 <;> kernel_rfl) ?_)))))))
       cases h
       exact ihx31 v47 (w64 (v27 + v38.2))  _ hsx36 _ (by omega) hrx32 hxx33
     refine Ops.hv (fun KQ => ∀ v39 : Bool, f16_r1 m v26 v27 v38 (v39 && (decide (v38.2 ≤ 1))) = some sx35 → KQ 3 ⟨(.v (.str a0)) :: q1 ((.v (.sl .nil (List.map eI []))) :: (.ptr 0 0) :: (appD 3 (List.map eI v26)) :: (dI v27) :: (.v (.int .i32 v38.1)) :: (dI v38.2) :: q8 ((.v (.tuple [(.int .i32 v38.1), (vI v38.2)])) :: (.v (.str a0)) :: (dI v27) :: (.v (.str v37)) :: (.v (.tuple [(.int .i32 v38.1), (vI v38.2)])) :: (.v (.int .i32 v38.1)) :: (dI v38.2) :: (.v (.int .i32 v38.1)) :: (dB v39) :: (dB v39) :: q15 [])), [b16_0, .dead, .dead, (appO 1 (List.map eI v26))]⟩) ?_ fun G16g40 => Ops.st _ (by kernel_rfl) (G16g40 (v38.1 == 65533) h)
     intro v39 h
     cases v39
     ·refine Ops.sg 3 6 ?_
      exact Ops.st _ (by kernel_rfl) (J16j45 U U false false h)
     ·refine Ops.sg 3 6 ?_
      exact Ops.st _ (by kernel_rfl) (J16j45 (dI v38.2) (dB (decide (v38.2 ≤ 1))) true (decide (v38.2 ≤ 1)) h)
    ·refine Wp.exit (id := 0) (by kernel_rfl) (sqQ.x (seqQ.x ?_))
     cases h
     refine lpQ.x (blkQ.x ⟨q2 ((.v (.sl .nil (List.map eI []))) :: (.ptr 0 0) :: (appD 2 (List.map eI v26)) :: q36 []), [b16_0, .dead, (appO 1 (List.map eI v26))]⟩ (by generalize v26 = z0; cases z0 <;> kernel_rfl) ?_)
     exact hxx33 (v26, v27)  hsx36
  refine Wp.loop' [0, 2, 3, 4, 5] 2 (by kernel_rfl) ⟨(.v (.str a0)) :: q1 ((.v (.sl .nil (List.map eI []))) :: (.ptr 0 0) :: (appD 2 (List.map eI [])) :: (dI 0) :: q35 []), [b16_0, .dead, .dead]⟩ (by kernel_rfl) ?_
  rcases brk_some h with ⟨r50, er50, h⟩ | ⟨y49, ey49, h⟩
  ·refine hLx48 _ [] 0  _ er50 n (by omega) (fun r er σ hσ => ?_) (fun y  ey => by cases ey)
   cases er
   refine seqQ.r ?_
   exact fnQK.r' (X16g n) eI e31 h hσ
  ·refine hLx48 _ [] 0  _ ey49 n (by omega) (fun r er => by cases er) (fun y  ey => ?_)
   cases ey
   refine seqQ.n (Wp.sq (Wp.rg (Ops.sg 4 4 (Ops.dn (seqQ.n (Wp.ret (by kernel_rfl) ?_))))))
   exact fnQK.r' (X16g n) eI e31 h (RetOkK.app 2 (List.map eI y49.1) (.agg [(vI 0), (vI 0)]) (by kernel_rfl) (by kernel_rfl))
theorem ok14g (m : Nat) (a0 : S23) (o : S31) (h : f14 m a0 = some o) (n : Nat) (hn : m + 5 ≤ n) : Fn Proofs.Tryz.prog EG n 14 [.v (e23 a0)] (e31 o) := by
 obtain ⟨n, rfl⟩ : ∃ q, n = q + 1 := ⟨n - 1, by omega⟩
 exact ora_fn (F := oraEv Proofs.Tryz.prog E 14) (xs := [e23 a0]) (by kernel_rfl) rfl rfl (oraEv_eq fun k hk => ok14 m a0 o h k hk) rfl
noncomputable def f6 (m : Nat) (a0 : S29) : Option (S29 × S31) := Rd.f22F a0
theorem ok22 (a0 : S29) (o : S29 × S31) (h : Rd.f22F a0 = some o) (n : Nat) : Fn Proofs.Tryz.prog EG (n + 1) 22 [.v (e29 a0), .v (.fn 23)] (.tuple [e29 o.1, e31 o.2]) := by
 refine ora_fn (F := Rd.F22) (xs := [e29 a0, .fn 23]) (by kernel_rfl) rfl rfl ?_ rfl
 rw [Rd.F22_eq, h]
 rfl
noncomputable abbrev X6 (n : Nat) : Cx := cxOf Proofs.Tryz.prog EG 6 n
theorem ok6 (m : Nat) (a0 : S29) (o : S29 × S31) (h : f6 m a0 = some o) (n : Nat) (hn : m + 2 ≤ n) : Fn Proofs.Tryz.prog EG n 6 [.v (e29 a0)] (.tuple [e29 o.1, e31 o.2]) := by
 obtain ⟨n, rfl⟩ : ∃ q, n = q + 2 := ⟨n - 2, by omega⟩
 have h : Rd.f22F a0 = some o := h
 refine Fn.of (by kernel_rfl) (by kernel_rfl) (by kernel_rfl) ⟨(.v (e29 a0)) :: u7 [], []⟩ (by kernel_rfl) (Wp.sq (Wp.rg (Ops.sg 3 3 (Ops.dn (seqQ.n (Wp.sq (Wp.rg (Ops.sg 1 1 ?_))))))))
 refine Ops.on 2 (fun h0 e0 => (call_ok (E' := EG) (h := h0) (by kernel_rfl) (Args.v (.agg [(vI a0.fStates), (vP e61 a0.fArcs), (vP e52 a0.fFinals)]) (e29 a0) (by kernel_rfl) (Args.v (.fn 23) (.fn 23) (by kernel_rfl) Args.nil)) (ok22 a0 o h n))) ?_
 refine Ops.sg 4 6 (Ops.dn (seqQ.n (Wp.ret (by kernel_rfl) ?_)))
 exact fnQ.r' (X6 (n + 1)) (fun (z : S29 × S31) => (.tuple [e29 z.1, e31 z.2])) (a := o) (o := o) rfl (RetOk.mk' (.v (.tuple [(e29 o.1), (e31 o.2)])) (by kernel_rfl) (by kernel_rfl))
end Go.Abs
