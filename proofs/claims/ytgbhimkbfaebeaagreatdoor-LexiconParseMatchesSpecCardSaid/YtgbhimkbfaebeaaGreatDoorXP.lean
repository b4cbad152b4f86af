import Derived.Test.YtgbhimkbfaebeaaGreatDoorWF1
import Derived.Test.YtgbhimkbfaebeaaGreatDoorXI
namespace Go.Abs.Xp
open Go.Sort Go.Proofs Go.Abs.Xi
set_option linter.unusedVariables false
set_option linter.unusedSimpArgs false
set_option linter.unnecessarySimpa false
set_option maxRecDepth 100000
set_option maxHeartbeats 4000000
theorem regrid {S : Nat → Nat → Prop} {β : Blocks} {w : World} {h : List AObj} (hi : HInv S β w h) {r k : Nat} {es : List V} (hr : h[r]? = some (.row k es)) : HInv S β w (h.set r (.grid k ((es.flatMap V.cells).map .v))) := by
 have hlt := lt_of_getElem? hr
 have hlen := hi.len
 obtain ⟨⟨b, c, k'⟩, hb⟩ : ∃ x, β[r]? = some x := ⟨_, List.getElem?_eq_getElem (by omega)⟩
 obtain ⟨o1, o2, o3, o4, o5, cur, e, o6, o7, o8⟩ := hi.obj r _ b c k' hr hb
 subst o1
 obtain ⟨f1, f2⟩ := flat_cell o2 (xs := es) o5
 exact (own_write (DR := False) (w' := w) (o' := .grid k ((es.flatMap V.cells).map .v)) hi hr rfl hb rfl (fun _ _ => rfl) rfl rfl rfl (Nat.le_refl _) rfl
  (fun hk => ⟨rfl, o2, o3, by rw [List.length_map, f1]; exact Nat.mul_le_mul_right _ o4, cur, e, o6, o7, fun j v d h1 h2 => by
   rw [List.getElem?_map] at h2
   obtain ⟨y, hy, rfl⟩ := Option.map_eq_some_iff.1 h2
   obtain ⟨i, j', x, e1, e2, e3⟩ := f2 j y hy
   exact .v _ _ (o8 i j' x y v e1 e2 (by rw [← e3]; exact h1))⟩)).2
theorem Ht.regrid {DR : Prop} {P : Program} {c : Code} {σ : St} {Q : Post} {r k : Nat} {es : List V} (hr : σ.heap[r]? = some (.row k es)) (h : Ht DR P c ⟨σ.tmps, σ.heap.set r (.grid k ((es.flatMap V.cells).map .v))⟩ Q) : Ht DR P c σ Q :=
 fun S β a w hI => h S β a w ⟨hI.size, hI.tmps, Xp.regrid hI.heap hr, hI.defers⟩
abbrev clsB : ByteArray := ⟨#[99, 108, 97, 115, 115, 32]⟩
abbrev itmB : ByteArray := ⟨#[105, 116, 101, 109, 32]⟩
def addI (cl : List S44) (y : S46) : List S44 := match cl.getLast? with
 | some c => cl.dropLast ++ [⟨c.fName, c.fItems ++ [y]⟩]
 | none => []
def stepL (m : Nat) (i : Int) (cl : List S44) (x : ByteArray) : Option (S26 ⊕ List S44) :=
 match cutPre x clsB with
 | (nm, true) => some (.inr (cl ++ [⟨nm, []⟩]))
 | (_, false) => match cutPre x itmB with
  | (_, false) => some (.inl ⟨11, i⟩)
  | (s, true) => match cl with
   | [] => some (.inl ⟨11, i⟩)
   | c :: r => match f30 m s with
    | none => none
    | some (_, false) => some (.inl ⟨11, i⟩)
    | some (y, true) => some (.inr (addI (c :: r) y))
def parseL (m : Nat) : Int → List S44 → List ByteArray → Option (S26 ⊕ List S44)
 | _, cl, [] => some (.inr cl)
 | i, cl, [x] => if (x.toList == (⟨#[]⟩ : ByteArray).toList) = true then some (.inr cl) else some (.inl ⟨11, i⟩)
 | i, cl, x :: y :: r => match stepL m i cl x with
  | none => none
  | some (.inl f) => some (.inl f)
  | some (.inr cl') => parseL m (i + 1) cl' (y :: r)
def f14 (m : Nat) (a0 : ByteArray) : Option (S23 × S26) :=
 if (a0.size : Int) > 4000 then some (⟨[]⟩, ⟨1, -1⟩) else match f28 m a0 (⟨#[10]⟩ : ByteArray) with
  | none => none
  | some lines => if lines.length ≤ 1000000 then match parseL m 0 [] lines with
   | none => none
   | some (.inl f) => some (⟨[]⟩, f)
   | some (.inr cl) => match f11 m ⟨cl⟩ with
    | none => none
    | some f => if f.fCode = 0 ∧ f.fIndex = 0 then some (⟨cl⟩, ⟨0, 0⟩) else some (⟨[]⟩, f)
   else none
def flg (l : List S46) : SFlag := match l with
 | [] => .nil
 | _ :: _ => .plain
def gC (cl : List S44) : List D := cl.flatMap fun c => [.v (.str c.fName), .v (.sl (flg c.fItems) (c.fItems.map e46))]
theorem gC_len (cl : List S44) : (gC cl).length = cl.length * 2 := by
 unfold gC
 induction cl with
 | nil => rfl
 | cons c r ih => rw [List.flatMap_cons, List.length_append, ih]; simp only [List.length_cons, List.length_nil]; omega
theorem gC_unt (cl : List S44) : (gC cl).map D.unt = gC cl := by
 unfold gC
 induction cl with
 | nil => rfl
 | cons c r ih => rw [List.flatMap_cons, List.map_append, ih]; rfl
theorem gC_app (a b : List S44) : gC (a ++ b) = gC a ++ gC b := by unfold gC; rw [List.flatMap_append]
def ItOk (G : List AObj) (r : Nat) (l : List S46) (it : D) : Prop := (l = [] ∧ it = .v (.sl .nil [])) ∨ (l ≠ [] ∧ ∃ q, 3 ≤ q ∧ q ≠ r ∧ it = .tsl q (l.map e46) ∧ G[q]? = some (.tok 5 l.length))
theorem ItOk.unt {G : List AObj} {r : Nat} {l : List S46} {it : D} (h : ItOk G r l it) : it.unt = .v (.sl (flg l) (l.map e46)) := by
 rcases h with ⟨rfl, rfl⟩ | ⟨hl, q, _, _, rfl, _⟩
 ·rfl
 ·cases l with
  | nil => exact absurd rfl hl
  | cons x r => rfl
inductive ClOk (G : List AObj) : List S44 → D → Prop where
 | nil : ClOk G [] (.v (.sl .nil []))
 | cons (init : List S44) (c : S44) (r : Nat) (it : D) (hr3 : 3 ≤ r) (hr : G[r]? = some (.grid 2 (gC init ++ [.v (.str c.fName), it]))) (hit : ItOk G r c.fItems it) : ClOk G (init ++ [c]) (.osl r 0 (init.length + 1) false)
theorem ClOk.keep {G G' : List AObj} {cl : List S44} {cd : D} (h : ClOk G cl cd) (hk : ∀ (r : Nat) (o : AObj), 3 ≤ r → G[r]? = some o → G'[r]? = some o) : ClOk G' cl cd := by
 cases h with
 | nil => exact .nil
 | cons init c r it hr3 hr hit =>
  refine .cons init c r it hr3 (hk r _ hr3 hr) ?_
  rcases hit with h | ⟨hl, q, h1, h2, h3, h4⟩
  ·exact .inl h
  ·exact .inr ⟨hl, q, h1, h2, h3, hk q _ h1 h4⟩
structure InvP (cl : List S44) (cd : D) (G : List AObj) : Prop where
 g0 : G[0]? = some (.cells [.v (.sl .nil [])])
 g1 : G[1]? = some (.cells [dI 0, dI 0])
 g2 : G[2]? = some (.cells [cd])
 cls : ClOk G cl cd
theorem InvP.len {cl : List S44} {cd : D} {G : List AObj} (h : InvP cl cd G) : 3 ≤ G.length := lt_of_getElem? h.g2
theorem InvP.keep {G G' : List AObj} {cl : List S44} {cd : D} (h : InvP cl cd G) (hk : ∀ (r : Nat) (o : AObj), r < G.length → G[r]? = some o → G'[r]? = some o) : InvP cl cd G' :=
 ⟨hk 0 _ (lt_of_getElem? h.g0) h.g0, hk 1 _ (lt_of_getElem? h.g1) h.g1, hk 2 _ (lt_of_getElem? h.g2) h.g2, h.cls.keep fun r o _ hr => hk r o (lt_of_getElem? hr) hr⟩
def valC (cl : List S44) : List V := cl.flatMap fun c => [.str c.fName, .sl .plain (c.fItems.map e46)]
theorem allM_app {α β : Type} (f : α → Option β) : ∀ {l l' : List α} {a b : List β}, allM f l = some a → allM f l' = some b → allM f (l ++ l') = some (a ++ b)
 | [], l', a, b, h1, h2 => by cases h1; exact h2
 | x :: l, l', a, b, h1, h2 => by
  unfold allM at h1
  split at h1
  ·rename_i y ys hy hys
   cases h1
   have := allM_app f hys h2
   show (match f x, allM f (l ++ l') with
    | some y, some ys => some (y :: ys)
    | _, _ => none) = _
   rw [hy, this]
   rfl
  ·cases h1
theorem frz_gC (G : List AObj) (n : Nat) (cl : List S44) : allM (frz G (n + 1)) (gC cl) = some (valC cl) := by
 unfold gC valC
 induction cl with
 | nil => rfl
 | cons c r ih =>
  rw [List.flatMap_cons, List.flatMap_cons]
  exact allM_app _ rfl ih
theorem chunk_val : ∀ (cl : List S44), chunk 2 cl.length (valC cl) = cl.map e44
 | [] => rfl
 | c :: r => by
  show V.agg [.str c.fName, .sl .plain (c.fItems.map e46)] :: chunk 2 r.length (valC r) = _
  rw [chunk_val r]
  rfl
theorem val_scalar (cl : List S44) : (valC cl).all V.scalar = true := by
 unfold valC
 induction cl with
 | nil => rfl
 | cons c r ih => rw [List.flatMap_cons, List.all_append, ih]; rfl
theorem frz_cl {G : List AObj} {cl : List S44} {cd : D} (h : ClOk G cl cd) (n : Nat) : frz G (n + 2) cd = some (.sl .plain (cl.map e44)) := by
 cases h with
 | nil => rfl
 | cons init c r it hr3 hr hit =>
  have hlen : (gC init ++ [D.v (.str c.fName), it]).length = (init.length + 1) * 2 := by rw [List.length_append, gC_len]; show _ + 2 = _; omega
  have hit' : frz G (n + 1) it = some (.sl .plain (c.fItems.map e46)) := by
   rcases hit with ⟨h1, rfl⟩ | ⟨_, q, _, _, rfl, _⟩
   ·rw [h1]; rfl
   ·rfl
  have hall : allM (frz G (n + 1)) (gC init ++ [D.v (.str c.fName), it]) = some (valC (init ++ [c])) := by
   have h2 : allM (frz G (n + 1)) [D.v (.str c.fName), it] = some [.str c.fName, .sl .plain (c.fItems.map e46)] := by
    have h0 : frz G (n + 1) (.v (.str c.fName)) = some (.str c.fName) := rfl
    simp only [allM, h0, hit']
   rw [allM_app _ (frz_gC G n init) h2]
   unfold valC
   rw [List.flatMap_append]
   rfl
  have hl : (init ++ [c]).length = init.length + 1 := by simp
  show (match G[r]? with
   | some (.row _ es) => if 0 + (init.length + 1) ≤ es.length then some (V.sl .plain ((es.drop 0).take (init.length + 1))) else none
   | some (.cells cs) => if 0 + (init.length + 1) ≤ cs.length then match allM (frz G (n + 1)) ((cs.drop 0).take (init.length + 1)) with
    | some vs => if vs.all V.scalar then some (.sl .plain vs) else none
    | none => none
    else none
   | some (.grid k cs) => if (0 + (init.length + 1)) * k ≤ cs.length then match allM (frz G (n + 1)) ((cs.drop (0 * k)).take ((init.length + 1) * k)) with
    | some vs => if vs.all V.scalar then some (.sl .plain (chunk k (init.length + 1) vs)) else none
    | none => none
    else none
   | _ => none) = _
  simp only [hr]
  rw [if_pos (by rw [hlen]; omega), Nat.zero_mul, List.drop_zero, List.take_of_length_le (by rw [hlen]; omega), hall]
  simp only [val_scalar, if_true]
  rw [← hl, chunk_val]
noncomputable def XT (n : Nat) : Cx := ⟨{ E with rowM := true, dynP := true, bldTy := fun t => t == 22 }, run Tryz.prog E n, ⟨fun _ => [], fun _ => [], fun _ => []⟩, [], n⟩
theorem hxT (n : Nat) : Hx False Tryz.prog (XT n) := ⟨good.mixed, good.types, run_sound good n⟩
noncomputable def XW (n : Nat) : Cx := ⟨{ E with rowM := false, dynP := true }, run Tryz.prog E n, ⟨fun _ => [], fun _ => [], fun _ => []⟩, [], n⟩
theorem hxW (n : Nat) : Hx False Tryz.prog (XW n) := ⟨good.mixed, good.types, run_sound good n⟩
theorem ldc {i : TI} {h : List AObj} {r off : Nat} {cs : List D} {d : D} (hr : h[r]? = some (.cells cs)) (hd : (cut cs off i.size).bind (mkOf i.kind.isAgg) = some d) : (loadD i h (.ptr r off)).map (·, h) = some (d, h) := by
 simp only [loadD, hr, hd, Option.map_some]
theorem ldg {i : TI} {h : List AObj} {r off k : Nat} {cs : List D} {d : D} (hr : h[r]? = some (.grid k cs)) (hd : (cut cs off i.size).bind (mkOf i.kind.isAgg) = some d) : (loadD i h (.ptr r off)).map (·, h) = some (d, h) := by
 simp only [loadD, hr, hd, Option.map_some]
theorem stc {i : TI} {h : List AObj} {r off : Nat} {cs cs' : List D} {x : D} (hr : h[r]? = some (.cells cs)) (hs : (x.solid && x.cells.length == i.size) = true) (hc : splice cs off x.cells = some cs') : (storeD i h (.ptr r off) x).map (U, ·) = some (U, h.set r (.cells cs')) := by
 simp only [storeD, hs, if_true, hr, hc, Option.map_some]
theorem stg {i : TI} {h : List AObj} {r off k : Nat} {cs cs' : List D} {x : D} (hr : h[r]? = some (.grid k cs)) (hs : (x.solid && x.cells.length == i.size) = true) (hc : splice cs off x.cells = some cs') : (storeD i h (.ptr r off) x).map (U, ·) = some (U, h.set r (.grid k cs')) := by
 simp only [storeD, hs, if_true, hr, hc, Option.map_some]
abbrev cX (nm : ByteArray) : V := .agg [.str nm, .sl .nil []]
abbrev rN (nm : ByteArray) : AObj := .row 2 [cX nm]
theorem elC {h : List AObj} {q : Nat} {nm : ByteArray} (hq : h[q]? = some (rN nm)) : elemsOf 2 h (D.unt (.osl q 0 1 false)) = some [cX nm] := by
 simp only [D.unt, elemsOf, hq]
 rfl
theorem appC0 {h : List AObj} {q : Nat} {nm : ByteArray} (hq : h[q]? = some (rN nm)) : appendD T true 22 h (.v (.sl .nil [])) (.osl q 0 1 false) = some (.osl h.length 0 1 false, h ++ [rN nm]) := by
 have h1 : T 22 = some ti22 := rfl
 have h2 : T 45 = some ti45 := rfl
 unfold appendD
 simp only [h1, show ti22.kind = .slice 45 from rfl, h2]
 rw [if_neg (by decide), show ti45.size = 2 from rfl, elC hq]
 rfl
theorem appC1 {h : List AObj} {r n q : Nat} {cs : List D} {nm : ByteArray} (hq : h[q]? = some (rN nm)) (hr : h[r]? = some (.grid 2 cs)) (hc : cs.length = n * 2) (hn : n ≤ 1000000) :
  appendD T true 22 h (.osl r 0 n false) (.osl q 0 1 false) = some (.osl h.length 0 (n + 1) false, h.set r .dead ++ [.grid 2 (cs.map D.unt ++ [.v (.str nm), .v (.sl .nil [])])]) := by
 have h1 : T 22 = some ti22 := rfl
 have h2 : T 45 = some ti45 := rfl
 unfold appendD
 simp only [h1, show ti22.kind = .slice 45 from rfl, h2]
 rw [if_neg (by decide), show ti45.size = 2 from rfl, elC hq]
 simp only [hr]
 rw [if_neg (by decide), if_pos ⟨trivial, trivial, trivial, hc, by show (n + 1) * 40 ≤ _; omega, by show n + 1 ≤ _; unfold maxLen; omega⟩]
 rfl
theorem appI0 (h : List AObj) (x : S46) : appendD T false 43 h (.v (.sl .nil [])) (.v (.sl .nonfull [e46 x])) = some (.tsl h.length [e46 x], h ++ [.tok 5 1]) := by kernel_rfl
theorem appI1 {h : List AObj} {q : Nat} {l : List S46} (x : S46) (hq : h[q]? = some (.tok 5 l.length)) (hn : l.length ≤ 1000000) :
  appendD T false 43 h (.tsl q (l.map e46)) (.v (.sl .nonfull [e46 x])) = some (.tsl h.length ((l ++ [x]).map e46), h.set q .dead ++ [.tok 5 (l ++ [x]).length]) := by
 have h1 : T 43 = some ti43 := rfl
 have h2 : T 47 = some ti47 := rfl
 have hx : elemsOf ti47.size h (D.unt (.v (.sl .nonfull [e46 x]))) = some [e46 x] := rfl
 unfold appendD
 simp only [h1, show ti43.kind = .slice 47 from rfl, h2]
 rw [if_neg (by decide), hx]
 simp only [hq]
 rw [if_pos ⟨rfl, by rw [List.length_map], by rw [List.length_map]; show (_ + 1) * 72 ≤ _; omega, by rw [List.length_map]; show _ + 1 ≤ _; unfold maxLen; omega⟩]
 simp only [List.map_append, List.length_append, List.length_map]
 rfl
def Fin14 (l : S23) (f : S26) (σ : St) : Prop := ∃ d, resultsD T σ (resOf Tryz.prog 14) = some d ∧ frz σ.heap 15 d = some (.tuple [e23 l, e26 f])
theorem finR {σ : St} {a b : Int} (h2 : σ.tmps.getD 2 .undef = .ptr 0 0) (h3 : σ.tmps.getD 3 .undef = .ptr 1 0) (g0 : σ.heap[0]? = some (.cells [.v (.sl .nil [])])) (g1 : σ.heap[1]? = some (.cells [dI a, dI b])) : Fin14 ⟨[]⟩ ⟨a, b⟩ σ := by
 have e1 : loadD ti24 σ.heap (.ptr 0 0) = some (.v (.agg [.sl .nil []])) := by
  have := ldc (i := ti24) (off := 0) (d := .v (.agg [.sl .nil []])) g0 rfl
  obtain ⟨x, h1, h2⟩ := Option.map_eq_some_iff.1 this
  rw [h1]; cases h2; rfl
 have e2 : loadD ti27 σ.heap (.ptr 1 0) = some (.v (.agg [vI a, vI b])) := by
  have := ldc (i := ti27) (off := 0) (d := .v (.agg [vI a, vI b])) g1 rfl
  obtain ⟨x, h1, h2⟩ := Option.map_eq_some_iff.1 this
  rw [h1]; cases h2; rfl
 have hT1 : T 24 = some ti24 := rfl
 have hT2 : T 27 = some ti27 := rfl
 refine ⟨.v (.tuple [.agg [.sl .nil []], .agg [vI a, vI b]]), ?_, rfl⟩
 rw [show resOf Tryz.prog 14 = [.cell 2 24, .cell 3 27] by kernel_rfl]
 simp only [resultsD, allM, resultD, h2, h3, hT1, hT2, e1, e2]
 rfl
theorem mkAgg_o (r n : Nat) : mkAgg [D.osl r 0 n false] = .agg [.osl r 0 n false] := rfl
theorem argP_cl {G : List AObj} {cl : List S44} {cd : D} (h : ClOk G cl cd) : argP G (mkAgg [cd]) = some (.v (e23 ⟨cl⟩)) := by
 have hz := frz_cl h 3
 cases h with
 | nil => rfl
 | cons init c r it hr3 hr hit =>
  rw [mkAgg_o]
  show ((allM (frz G 5) [D.osl r 0 (init.length + 1) false]).map V.agg).map D.v = _
  simp only [allM, hz]
  rfl
theorem st0 {G h : List AObj} {cl : List S44} {cd : D} {cs : List D} (hc : ClOk G cl cd) (hr : h[0]? = some (.cells cs)) (hl : cs.length = 1) : (storeD ti24 h (.ptr 0 0) (mkAgg [cd])).map (U, ·) = some (U, h.set 0 (.cells [cd])) := by
 obtain ⟨x, rfl⟩ := List.length_eq_one_iff.1 hl
 cases hc with
 | nil => exact stc hr rfl rfl
 | cons init c r it hr3 hr' hit => exact stc (x := .agg [.osl r 0 (init.length + 1) false]) hr rfl rfl
theorem finO {G : List AObj} {σ : St} {cl : List S44} {cd : D} (h2 : σ.tmps.getD 2 .undef = .ptr 0 0) (h3 : σ.tmps.getD 3 .undef = .ptr 1 0) (g0 : σ.heap[0]? = some (.cells [cd])) (g1 : σ.heap[1]? = some (.cells [dI 0, dI 0])) (hc : ClOk σ.heap cl cd) : Fin14 ⟨cl⟩ ⟨0, 0⟩ σ := by
 have e1 : loadD ti24 σ.heap (.ptr 0 0) = some (mkAgg [cd]) := by
  have := ldc (i := ti24) (off := 0) (d := mkAgg [cd]) g0 rfl
  obtain ⟨x, h1, h2⟩ := Option.map_eq_some_iff.1 this
  rw [h1]; cases h2; rfl
 have e2 : loadD ti27 σ.heap (.ptr 1 0) = some (.v (.agg [vI 0, vI 0])) := by
  have := ldc (i := ti27) (off := 0) (d := .v (.agg [vI 0, vI 0])) g1 rfl
  obtain ⟨x, h1, h2⟩ := Option.map_eq_some_iff.1 this
  rw [h1]; cases h2; rfl
 have hT1 : T 24 = some ti24 := rfl
 have hT2 : T 27 = some ti27 := rfl
 refine ⟨mkTuple [mkAgg [cd], .v (.agg [vI 0, vI 0])], ?_, ?_⟩
 ·rw [show resOf Tryz.prog 14 = [.cell 2 24, .cell 3 27] by kernel_rfl]
  simp only [resultsD, allM, resultD, h2, h3, hT1, hT2, e1, e2]
 ·have hz := frz_cl hc 11
  cases hc with
  | nil => rfl
  | cons init c r it hr3 hr hit =>
   show (allM (frz σ.heap 14) [.agg [.osl r 0 (init.length + 1) false], .v (.agg [vI 0, vI 0])]).map V.tuple = _
   have h5 : frz σ.heap 14 (.agg [.osl r 0 (init.length + 1) false]) = some (e23 ⟨init ++ [c]⟩) := by
    show (allM (frz σ.heap 13) [D.osl r 0 (init.length + 1) false]).map V.agg = _
    simp only [allM, hz]
    rfl
   have h6 : frz σ.heap 14 (.v (.agg [vI 0, vI 0])) = some (e26 ⟨0, 0⟩) := rfl
   simp only [allM, h5, h6]
   rfl
theorem _root_.Go.Abs.Ht.regionF {DR : Prop} {P : Program} {X : Cx} {c : Code} {σ : St} {Q : Post} (H : Hx DR P X) (hc : regionFar X.E σ c = true) (h : Ops X (opl c) 0 σ (Q .normal)) : Ht DR P c σ Q := .of_wp H (Wp.regionF hc h)
theorem zz {K : List AObj} {x o : AObj} (h : K[1]? = some o) : (K.set 0 x)[1]? = some o := by rw [List.getElem?_set_ne (by omega)]; exact h
abbrev c00 : AObj := .cells [dI 0, dI 0]
abbrev cN : AObj := .cells [.v (.sl .nil [])]
def Sm (n : Nat) (l : List (Nat × D)) (h : List AObj) : St := ⟨(List.range n).map fun i => (l.lookup i).getD .undef, h⟩
theorem seqH.x {DR : Prop} {P : Program} {b : Code} {Q : Post} {id : Nat} {σ : St} (h : Q (.exit id) σ) : seqH DR P b Q (.exit id) σ := h
theorem seqH.r {DR : Prop} {P : Program} {b : Code} {Q : Post} {σ : St} (h : Q .ret σ) : seqH DR P b Q .ret σ := h
theorem blkH.r {id : Nat} {Q : Post} {σ : St} (h : Q .ret σ) : blkH id Q .ret σ := h
theorem blkH.n {id : Nat} {Q : Post} {σ : St} (h : Q .normal σ) : blkH id Q .normal σ := h
theorem Ht.st {DR : Prop} {P : Program} {c : Code} {σ σ' : St} {Q : Post} (e : σ = σ') (h : Ht DR P c σ' Q) : Ht DR P c σ Q := by rw [e]; exact h
noncomputable def C14 : Code := bodyOf Tryz.prog 14
noncomputable abbrev T14 : Code := cR (cR (cR (cR (cR C14))))
theorem tail14 (n m : Nat) (hn : m + 6 ≤ n) {cl : List S44} {cd : D} {G : List AObj} (hI : InvP cl cd G) (f : S26) (hf : f11 m ⟨cl⟩ = some f) {Q : Post}
  (hQ1 : f.fCode = 0 ∧ f.fIndex = 0 → ∀ σ, Fin14 ⟨cl⟩ ⟨0, 0⟩ σ → Q .ret σ) (hQ2 : ¬ (f.fCode = 0 ∧ f.fIndex = 0) → ∀ σ, Fin14 ⟨[]⟩ f σ → Q .ret σ) :
  Ht False Tryz.prog T14 (Sm 105 [(2, .ptr 0 0), (3, .ptr 1 0), (5, .ptr 2 0)] G) Q := by
 have hxn := hxT n
 have g2 := hI.g2
 have hlen := hI.len
 refine Ht.sq (Ht.sq (Ht.rg hxn ?_))
 refine Ops.on 1 (fun h0 e0 => ldc (i := ti24) (h := h0) (r := 2) (off := 0) (cs := [cd]) (d := mkAgg [cd]) (hq_of (g := G) (e0.trans (by kernel_rfl)) g2) rfl) ?_
 refine Ops.on 2 (fun h0 e0 => call_fl (E' := E) (h := h0) (by kernel_rfl) (ArgsC.cons (mkAgg [cd]) (.v (e23 ⟨cl⟩)) (by rw [show h0 = G from e0.trans (by kernel_rfl)]; exact argP_cl hI.cls) ArgsC.nil) rfl (ok11 m ⟨cl⟩ f hf n (by omega))) ?_
 refine Ops.sg 1 3 ?_
 refine Ops.on 4 (fun h0 e0 => stc (i := ti27) (h := h0) (r := G.length) (off := 0) (cs := [dI 0, dI 0]) (cs' := [dI f.fCode, dI f.fIndex]) (x := .v (.agg [vI f.fCode, vI f.fIndex])) (hq_of (g := G ++ [c00]) (e0.trans (by kernel_rfl)) (mid_get G _ _)) rfl rfl) ?_
 refine Ops.dn (seqH.n ?_)
 refine Ht.forget [2, 3, 5, 14] (Ht.st (σ' := Sm 105 [(2, .ptr 0 0), (3, .ptr 1 0), (5, .ptr 2 0), (14, .ptr G.length 0)] (G ++ [.cells [dI f.fCode, dI f.fIndex]])) (by rw [← mid_set G (.cells [dI 0, dI 0])]; kernel_rfl) ?_)
 have z0 : (G ++ [AObj.cells [dI f.fCode, dI f.fIndex]])[0]? = some (.cells [.v (.sl .nil [])]) := by rw [List.getElem?_append_left (by omega)]; exact hI.g0
 have z1 : (G ++ [AObj.cells [dI f.fCode, dI f.fIndex]])[1]? = some (.cells [dI 0, dI 0]) := by rw [List.getElem?_append_left (by omega)]; exact hI.g1
 have z2 : (G ++ [AObj.cells [dI f.fCode, dI f.fIndex]])[2]? = some (.cells [cd]) := by rw [List.getElem?_append_left (by omega)]; exact hI.g2
 have z3 : (G ++ [AObj.cells [dI f.fCode, dI f.fIndex]])[G.length]? = some (.cells [dI f.fCode, dI f.fIndex]) := mid_get _ _ _
 have hI' : InvP cl cd (G ++ [AObj.cells [dI f.fCode, dI f.fIndex]]) := hI.keep fun r o hr h => by rw [List.getElem?_append_left hr]; exact h
 obtain ⟨q, hq⟩ : ∃ q, G.length = q + 3 := ⟨G.length - 3, by omega⟩
 rw [hq] at z3 ⊢
 generalize G ++ [AObj.cells [dI f.fCode, dI f.fIndex]] = K at z0 z1 z2 z3 hI' ⊢
 refine Ht.sq (Ht.rg hxn ?_)
 refine Ops.on 1 (fun h0 e0 => ldc (i := ti27) (h := h0) (r := q + 3) (off := 0) (d := .v (.agg [vI f.fCode, vI f.fIndex])) (hq_of (g := K) (e0.trans (by kernel_rfl)) z3) rfl) ?_
 refine Ops.sg 2 3 (Ops.dn (seqH.n ?_))
 refine Ht.cond (!((f.fCode == 0) && ((f.fIndex == 0) && true))) (by kernel_rfl) (by kernel_rfl) (fun hc => ?_) (fun hc => ?_)
 ·have hc : ¬ (f.fCode = 0 ∧ f.fIndex = 0) := by rintro ⟨h1, h2⟩; rw [h1, h2] at hc; exact absurd hc (by decide)
  refine Ht.sq (Ht.regionF hxn (by kernel_rfl) (Ops.sg 1 1 ?_))
  refine Ops.on 2 (fun h0 e0 => ldc (i := ti27) (h := h0) (r := q + 3) (off := 0) (d := .v (.agg [vI f.fCode, vI f.fIndex])) (hq_of (g := K) (e0.trans (by kernel_rfl)) z3) rfl) ?_
  refine Ops.on 3 (fun h0 e0 => stc (i := ti24) (h := h0) (r := 0) (off := 0) (cs := [.v (.sl .nil [])]) (cs' := [.v (.sl .nil [])]) (x := .v (.agg [.sl .nil []])) (hq_of (g := K) (e0.trans (by kernel_rfl)) z0) rfl rfl) ?_
  refine Ops.on 4 (fun h0 e0 => stc (i := ti27) (h := h0) (r := 1) (off := 0) (cs := [dI 0, dI 0]) (cs' := [dI f.fCode, dI f.fIndex]) (x := .v (.agg [vI f.fCode, vI f.fIndex])) (hq_of (g := K.set 0 cN) (e0.trans (by kernel_rfl)) (zz z1)) rfl rfl) ?_
  refine Ops.dn (Ht.rt ?_)
  refine hQ2 hc _ (finR (a := f.fCode) (b := f.fIndex) (by kernel_rfl) (by kernel_rfl) ?_ ?_)
  ·show ((K.set 0 _).set 1 _)[0]? = _
   rw [List.getElem?_set_ne (by omega), List.getElem?_set_self (lt_of_getElem? z0)]
  ·show ((K.set 0 _).set 1 _)[1]? = _
   rw [List.getElem?_set_self (by rw [List.length_set]; exact lt_of_getElem? z1)]
 ·have hc : f.fCode = 0 ∧ f.fIndex = 0 := by simpa using hc
  refine Ht.sk (seqH.n (Ht.sq (Ht.rg hxn ?_)))
  refine Ops.on 1 (fun h0 e0 => ldc (i := ti24) (h := h0) (r := 2) (off := 0) (cs := [cd]) (d := mkAgg [cd]) (hq_of (g := K) (e0.trans (by kernel_rfl)) z2) rfl) ?_
  refine Ops.sg 1 2 ?_
  refine Ops.on 3 (fun h0 e0 => st0 (G := K) (h := h0) (cs := [.v (.sl .nil [])]) hI'.cls (hq_of (g := K) (e0.trans (by kernel_rfl)) z0) rfl) ?_
  refine Ops.on 4 (fun h0 e0 => stc (i := ti27) (h := h0) (r := 1) (off := 0) (cs := [dI 0, dI 0]) (cs' := [dI 0, dI 0]) (x := .v (.agg [vI 0, vI 0])) (hq_of (g := K.set 0 (.cells [cd])) (e0.trans (by kernel_rfl)) (zz z1)) rfl rfl) ?_
  refine Ops.dn (seqH.n (Ht.rt ?_))
  refine hQ1 hc _ (finO (G := K) (by kernel_rfl) (by kernel_rfl) (cd := cd) ?_ ?_ ?_)
  ·show ((K.set 0 _).set 1 _)[0]? = _
   rw [List.getElem?_set_ne (by omega), List.getElem?_set_self (lt_of_getElem? z0)]
  ·show ((K.set 0 _).set 1 _)[1]? = _
   rw [List.getElem?_set_self (by rw [List.length_set]; exact lt_of_getElem? z1)]
  ·show ClOk ((K.set 0 _).set 1 _) cl cd
   refine hI'.cls.keep fun r o hr h => ?_
   rw [List.getElem?_set_ne (by omega), List.getElem?_set_ne (by omega)]
   exact h
theorem set_keep {G : List AObj} {r q : Nat} {x o : AObj} (hne : q ≠ r) (h : G[r]? = some o) : (G.set q x)[r]? = some o := by rw [List.getElem?_set_ne hne]; exact h
theorem app_keep {G l : List AObj} {r : Nat} {o : AObj} (h : G[r]? = some o) : (G ++ l)[r]? = some o := by rw [List.getElem?_append_left (lt_of_getElem? h)]; exact h
theorem InvP.cls0 {cd : D} {G : List AObj} (h : InvP [] cd G) (nm : ByteArray) :
  InvP [⟨nm, []⟩] (.osl G.length 0 1 false) (((G ++ [AObj.row 2 [cX nm]]).set 2 (.cells [.osl G.length 0 1 false])).set G.length (.grid 2 (([cX nm].flatMap V.cells).map .v))) := by
 have hl := h.len
 refine ⟨set_keep (by omega) (set_keep (by omega) (app_keep h.g0)), set_keep (by omega) (set_keep (by omega) (app_keep h.g1)), set_keep (by omega) (List.getElem?_set_self (by simp; omega)), ?_⟩
 refine ClOk.cons [] ⟨nm, []⟩ G.length (.v (.sl .nil [])) hl ?_ (.inl ⟨rfl, rfl⟩)
 rw [List.getElem?_set_self (by simp)]
 rfl
theorem InvP.cls1 {init : List S44} {c : S44} {r : Nat} {it : D} {cd : D} {G : List AObj} (h : InvP (init ++ [c]) cd G) (hr3 : 3 ≤ r) (hr : G[r]? = some (.grid 2 (gC init ++ [.v (.str c.fName), it]))) (hit : ItOk G r c.fItems it) (nm : ByteArray) :
  InvP (init ++ [c] ++ [⟨nm, []⟩]) (.osl G.length 0 (init.length + 1 + 1) false) ((G.set r AObj.dead ++ [AObj.grid 2 ((gC init ++ [.v (.str c.fName), it]).map D.unt ++ [.v (.str nm), .v (.sl .nil [])])]).set 2 (.cells [.osl G.length 0 (init.length + 1 + 1) false])) := by
 have hl := h.len
 refine ⟨set_keep (by omega) (app_keep (set_keep (by omega) h.g0)), set_keep (by omega) (app_keep (set_keep (by omega) h.g1)), List.getElem?_set_self (by simp; omega), ?_⟩
 have e1 : (init ++ [c]).length = init.length + 1 := by simp
 rw [← e1]
 refine ClOk.cons (init ++ [c]) ⟨nm, []⟩ G.length (.v (.sl .nil [])) hl ?_ (.inl ⟨rfl, rfl⟩)
 refine set_keep (by omega) ?_
 have e2 : G.length = (G.set r AObj.dead).length := by simp
 rw [e2, mid_get, List.map_append, gC_unt, gC_app]
 have e3 : [D.v (.str c.fName), it].map D.unt = gC [c] := by
  show [D.v (.str c.fName), it.unt] = _
  rw [hit.unt]; rfl
 rw [e3]
theorem addI_app (init : List S44) (c : S44) (y : S46) : addI (init ++ [c]) y = init ++ [⟨c.fName, c.fItems ++ [y]⟩] := by
 unfold addI
 simp
theorem InvP.item {init : List S44} {c : S44} {r q : Nat} {it : D} {cd : D} {G K : List AObj} (h : InvP (init ++ [c]) cd G) (hcd : cd = .osl r 0 (init.length + 1) false) (hr3 : 3 ≤ r) (y : S46) (hq3 : 3 ≤ q) (hqr : q ≠ r)
  (hK : ∀ (j : Nat) (o : AObj), j < 3 → G[j]? = some o → K[j]? = some o) (hr : K[r]? = some (.grid 2 (gC init ++ [.v (.str c.fName), it]))) (hq : K[q]? = some (.tok 5 (c.fItems ++ [y]).length)) :
  InvP (init ++ [⟨c.fName, c.fItems ++ [y]⟩]) cd (K.set r (.grid 2 (gC init ++ [.v (.str c.fName), .tsl q ((c.fItems ++ [y]).map e46)]))) := by
 refine ⟨set_keep (by omega) (hK 0 _ (by omega) h.g0), set_keep (by omega) (hK 1 _ (by omega) h.g1), set_keep (by omega) (hK 2 _ (by omega) h.g2), ?_⟩
 subst hcd
 refine ClOk.cons init ⟨c.fName, c.fItems ++ [y]⟩ r (.tsl q ((c.fItems ++ [y]).map e46)) hr3 (List.getElem?_set_self (lt_of_getElem? hr)) (.inr ⟨by simp, q, hq3, hqr, rfl, set_keep (by omega) hq⟩)
theorem ixG {h : List AObj} {r n : Nat} {cs : List D} {x : Int} (hr : h[r]? = some (.grid 2 cs)) (hx : x = (n : Int)) : (indexAddrH T h 22 (D.unt (.osl r 0 (n + 1) false)) (dI x)).map (·, h) = some (.ptr r (n * 2), h) := by
 subst hx
 have hn : natOf (dI (n : Int)) = some n := by simp [natOf]
 have h1 : T 22 = some ti22 := rfl
 simp only [D.unt, indexAddrH, h1, show ti22.kind = .slice 45 from rfl, hn, show sizeT T 45 = some 2 from rfl, hr]
 rw [if_pos (by omega), if_pos trivial, Nat.zero_add]
 rfl
theorem cut_it (init : List S44) (a it : D) : (cut (gC init ++ [a, it]) (init.length * 2 + 1) 1).bind (mkOf false) = some it := by
 unfold cut
 rw [if_pos (by rw [List.length_append, gC_len]; simp only [List.length_cons, List.length_nil]; omega), ← gC_len init]
 have e : (gC init ++ [a, it]).drop ((gC init).length + 1) = [it] := by
  rw [List.drop_append, List.drop_of_length_le (by omega), show (gC init).length + 1 - (gC init).length = 1 by omega]
  rfl
 rw [e]
 rfl
theorem spl_it (init : List S44) (a it x : D) : splice (gC init ++ [a, it]) (init.length * 2 + 1) [x] = some (gC init ++ [a, x]) := by
 unfold splice
 rw [if_pos (by rw [List.length_append, gC_len]; simp only [List.length_cons, List.length_nil]; omega), ← gC_len init]
 have e : (gC init ++ [a, it]).drop ((gC init).length + 1 + [x].length) = [] := List.drop_of_length_le (by simp)
 have e2 : (gC init ++ [a, it]).take ((gC init).length + 1) = gC init ++ [a] := by
  rw [List.take_append, List.take_of_length_le (by omega), show (gC init).length + 1 - (gC init).length = 1 by omega]
  rfl
 rw [e, e2]
 simp
noncomputable abbrev LB : Code := cL (cL (cR (cL (cR (cR (cR (cR C14)))))))
noncomputable abbrev BK : Code := cL (cL (cR (cR LB)))
noncomputable abbrev LI : Code := cR BK
theorem ret10 (n m : Nat) (hn : m + 6 ≤ n) (i : Int) (K : List AObj) (k0 : K[0]? = some cN) (k1 : K[1]? = some c00) {Q : Post} (hQ : ∀ σ, Fin14 ⟨[]⟩ ⟨11, i⟩ σ → Q .ret σ) :
  Ht False Tryz.prog (cL (cR (cL (cL (cR (cL LI)))))) (Sm 105 [(2, .ptr 0 0), (3, .ptr 1 0), (6, dI i)] K) Q := by
 have hxn := hxT n
 refine Ht.sq (Ht.rg hxn (Ops.sg 2 2 ?_))
 refine Ops.on 3 (fun h0 e0 => call_ok (E' := E) (h := h0) (by kernel_rfl) (Args.v (vI 11) (eI 11) (by kernel_rfl) (Args.v (vI i) (eI i) (by kernel_rfl) Args.nil)) (ok25 m 11 i ⟨11, i⟩ rfl n (by omega))) ?_
 refine Ops.on 4 (fun h0 e0 => stc (i := ti24) (h := h0) (r := 0) (off := 0) (cs := [.v (.sl .nil [])]) (cs' := [.v (.sl .nil [])]) (x := .v (.agg [.sl .nil []])) (hq_of (g := K) (e0.trans (by kernel_rfl)) k0) rfl rfl) ?_
 refine Ops.on 5 (fun h0 e0 => stc (i := ti27) (h := h0) (r := 1) (off := 0) (cs := [dI 0, dI 0]) (cs' := [dI 11, dI i]) (x := .v (.agg [vI 11, vI i])) (hq_of (g := K.set 0 cN) (e0.trans (by kernel_rfl)) (zz k1)) rfl rfl) ?_
 refine Ops.dn (seqH.n (Ht.rt ?_))
 refine hQ _ (finR (a := 11) (b := i) (by kernel_rfl) (by kernel_rfl) ?_ ?_)
 ·show ((K.set 0 _).set 1 _)[0]? = _
  rw [List.getElem?_set_ne (by omega), List.getElem?_set_self (lt_of_getElem? k0)]
 ·show ((K.set 0 _).set 1 _)[1]? = _
  rw [List.getElem?_set_self (by rw [List.length_set]; exact lt_of_getElem? k1)]
theorem ret16 (n m : Nat) (hn : m + 6 ≤ n) (i : Int) (K : List AObj) (k0 : K[0]? = some cN) (k1 : K[1]? = some c00) {Q : Post} (hQ : ∀ σ, Fin14 ⟨[]⟩ ⟨11, i⟩ σ → Q .ret σ) :
  Ht False Tryz.prog (cL (cR (cL (cR (cR (cR LI)))))) (Sm 105 [(2, .ptr 0 0), (3, .ptr 1 0), (6, dI i)] K) Q := by
 have hxn := hxT n
 refine Ht.sq (Ht.rg hxn (Ops.sg 2 2 ?_))
 refine Ops.on 3 (fun h0 e0 => call_ok (E' := E) (h := h0) (by kernel_rfl) (Args.v (vI 11) (eI 11) (by kernel_rfl) (Args.v (vI i) (eI i) (by kernel_rfl) Args.nil)) (ok25 m 11 i ⟨11, i⟩ rfl n (by omega))) ?_
 refine Ops.on 4 (fun h0 e0 => stc (i := ti24) (h := h0) (r := 0) (off := 0) (cs := [.v (.sl .nil [])]) (cs' := [.v (.sl .nil [])]) (x := .v (.agg [.sl .nil []])) (hq_of (g := K) (e0.trans (by kernel_rfl)) k0) rfl rfl) ?_
 refine Ops.on 5 (fun h0 e0 => stc (i := ti27) (h := h0) (r := 1) (off := 0) (cs := [dI 0, dI 0]) (cs' := [dI 11, dI i]) (x := .v (.agg [vI 11, vI i])) (hq_of (g := K.set 0 cN) (e0.trans (by kernel_rfl)) (zz k1)) rfl rfl) ?_
 refine Ops.dn (seqH.n (Ht.rt ?_))
 refine hQ _ (finR (a := 11) (b := i) (by kernel_rfl) (by kernel_rfl) ?_ ?_)
 ·show ((K.set 0 _).set 1 _)[0]? = _
  rw [List.getElem?_set_ne (by omega), List.getElem?_set_self (lt_of_getElem? k0)]
 ·show ((K.set 0 _).set 1 _)[1]? = _
  rw [List.getElem?_set_self (by rw [List.length_set]; exact lt_of_getElem? k1)]
theorem ret19 (n m : Nat) (hn : m + 6 ≤ n) (i : Int) (K : List AObj) (k0 : K[0]? = some cN) (k1 : K[1]? = some c00) {Q : Post} (hQ : ∀ σ, Fin14 ⟨[]⟩ ⟨11, i⟩ σ → Q .ret σ) :
  Ht False Tryz.prog (cL (cR (cL (cR (cR (cR (cR (cR LI)))))))) (Sm 105 [(2, .ptr 0 0), (3, .ptr 1 0), (6, dI i)] K) Q := by
 have hxn := hxT n
 refine Ht.sq (Ht.rg hxn (Ops.sg 2 2 ?_))
 refine Ops.on 3 (fun h0 e0 => call_ok (E' := E) (h := h0) (by kernel_rfl) (Args.v (vI 11) (eI 11) (by kernel_rfl) (Args.v (vI i) (eI i) (by kernel_rfl) Args.nil)) (ok25 m 11 i ⟨11, i⟩ rfl n (by omega))) ?_
 refine Ops.on 4 (fun h0 e0 => stc (i := ti24) (h := h0) (r := 0) (off := 0) (cs := [.v (.sl .nil [])]) (cs' := [.v (.sl .nil [])]) (x := .v (.agg [.sl .nil []])) (hq_of (g := K) (e0.trans (by kernel_rfl)) k0) rfl rfl) ?_
 refine Ops.on 5 (fun h0 e0 => stc (i := ti27) (h := h0) (r := 1) (off := 0) (cs := [dI 0, dI 0]) (cs' := [dI 11, dI i]) (x := .v (.agg [vI 11, vI i])) (hq_of (g := K.set 0 cN) (e0.trans (by kernel_rfl)) (zz k1)) rfl rfl) ?_
 refine Ops.dn (seqH.n (Ht.rt ?_))
 refine hQ _ (finR (a := 11) (b := i) (by kernel_rfl) (by kernel_rfl) ?_ ?_)
 ·show ((K.set 0 _).set 1 _)[0]? = _
  rw [List.getElem?_set_ne (by omega), List.getElem?_set_self (lt_of_getElem? k0)]
 ·show ((K.set 0 _).set 1 _)[1]? = _
  rw [List.getElem?_set_self (by rw [List.length_set]; exact lt_of_getElem? k1)]
abbrev KS : List Nat := [2, 3, 4, 5, 22, 23, 24]
abbrev S14 (lines : List ByteArray) (i : Int) (G : List AObj) : St := Sm 105 [(2, .ptr 0 0), (3, .ptr 1 0), (4, .v (vP eS lines)), (5, .ptr 2 0), (22, .v (vP eS lines)), (23, dI (lines.length : Int)), (24, dI i)] G
abbrev S14a (lines : List ByteArray) (i : Int) (x : ByteArray) (G : List AObj) : St := Sm 105 [(2, .ptr 0 0), (3, .ptr 1 0), (4, .v (vP eS lines)), (5, .ptr 2 0), (6, dI i), (7, .v (.str x)), (22, .v (vP eS lines)), (23, dI (lines.length : Int)), (24, dI i)] G
def Bnd (i : Nat) (cl : List S44) : Prop := cl.length ≤ i ∧ ∀ c ∈ cl, c.fItems.length ≤ i
def LS (m : Nat) (lines : List ByteArray) (goal : S26 ⊕ List S44) : Nat → St → Prop := fun k σ => ∃ (i : Nat) (cl : List S44) (cd : D) (G : List AObj), k = lines.length - i ∧ i ≤ lines.length ∧ parseL m (i : Int) cl (lines.drop i) = some goal ∧ InvP cl cd G ∧ Bnd i cl ∧ Abs.forget KS σ = S14 lines (i : Int) G
theorem next14 (n m : Nat) {lines : List ByteArray} (hl : lines.length ≤ 1000000) {goal : S26 ⊕ List S44} {i : Nat} (hi : i < lines.length) {cl : List S44} {cd : D} {G : List AObj} (hps : parseL m ((i : Int) + 1) cl (lines.drop (i + 1)) = some goal) (hI : InvP cl cd G) (hb : Bnd (i + 1) cl) {Q : Post} {σ : St} (hσ : Abs.forget KS σ = S14 lines (i : Int) G) :
  Ht False Tryz.prog (cR (cR (cR LB))) σ (lpH (LS m lines goal) (lines.length - i) Q) := by
 have hxn := hxT n
 have hw : w64 ((i : Int) + 1) = ((i + 1 : Nat) : Int) := by rw [w64_id ⟨by omega, by omega⟩]; omega
 refine Ht.forget KS (Ht.st hσ (Ht.rg hxn (Ops.sg 2 2 (Ops.dn ?_))))
 exact ⟨lines.length - (i + 1), by omega, i + 1, cl, cd, G, rfl, hi, by rw [← hps]; congr 1, hI, hb, (show Abs.forget KS _ = S14 lines (w64 ((i : Int) + 1)) G by kernel_rfl).trans (by rw [hw])⟩
abbrev gN (init : List S44) (c : S44) (it : D) (nm : ByteArray) : AObj := .grid 2 ((gC init ++ [.v (.str c.fName), it]).map D.unt ++ [.v (.str nm), .v (.sl .nil [])])
noncomputable abbrev A13 : Code := cL (cR (cR (cL (cR LI))))
theorem class14 (n : Nat) {lines : List ByteArray} {i : Int} {nm : ByteArray} {cl : List S44} {cd : D} {G : List AObj} (hI : InvP cl cd G) (hb : cl.length ≤ 1000000) {Q : Post}
  (hQ : ∀ cd' G' σ, InvP (cl ++ [⟨nm, []⟩]) cd' G' → Abs.forget KS σ = S14 lines i G' → Q (.exit 1) σ) :
  Ht False Tryz.prog A13 (Sm 105 [(2, .ptr 0 0), (3, .ptr 1 0), (4, .v (vP eS lines)), (5, .ptr 2 0), (8, .v (.str nm)), (22, .v (vP eS lines)), (23, dI (lines.length : Int)), (24, dI i)] G) Q := by
 have hxn := hxT n
 have g2 := hI.g2
 have hlen := hI.len
 have hK : InvP cl cd (G ++ [rN nm]) := hI.keep fun r o hr h => app_keep h
 cases hI.cls with
 | nil =>
  refine Ht.sq (Ht.rg hxn (Ops.sg 1 1 ?_))
  refine Ops.on 2 (fun h0 e0 => ldc (i := ti22) (h := h0) (r := 2) (off := 0) (cs := [.v (.sl .nil [])]) (d := .v (.sl .nil [])) (hq_of (g := G) (e0.trans (by kernel_rfl)) g2) rfl) ?_
  refine Ops.sg 3 5 ?_
  refine Ops.on 6 (fun h0 e0 => appC0 (h := h0) (q := G.length) (nm := nm) (hq_of (g := G ++ [rN nm]) (e0.trans (by kernel_rfl)) (mid_get G _ _))) ?_
  refine Ops.sg 1 7 ?_
  refine Ops.on 8 (fun h0 e0 => stc (i := ti22) (h := h0) (r := 2) (off := 0) (cs := [.v (.sl .nil [])]) (cs' := [.osl (G ++ [rN nm]).length 0 1 false]) (x := .osl (G ++ [rN nm]).length 0 1 false) (hq_of (g := G ++ [rN nm] ++ [rN nm]) (e0.trans (by kernel_rfl)) (app_keep hK.g2)) rfl rfl) ?_
  refine Ops.dn (seqH.n ?_)
  refine Ht.forget KS (Ht.st (σ' := S14 lines i ((G ++ [rN nm] ++ [rN nm]).set 2 (.cells [.osl (G ++ [rN nm]).length 0 1 false]))) (by kernel_rfl) (Ht.regrid (r := (G ++ [rN nm]).length) (k := 2) (es := [cX nm]) (set_keep (by have := hK.len; omega) (mid_get (G ++ [rN nm]) _ _)) (Ht.exit (id := 1) (by kernel_rfl) ?_)))
  exact hQ _ _ _ (hK.cls0 nm) (by kernel_rfl)
 | cons init c r it hr3 hr hit =>
  have hb : init.length + 1 ≤ 1000000 := by simpa using hb
  have hr' : (G ++ [rN nm])[r]? = some (.grid 2 (gC init ++ [.v (.str c.fName), it])) := app_keep hr
  have hit' : ItOk (G ++ [rN nm]) r c.fItems it := by
   rcases hit with h | ⟨h1, q, h2, h3, h4, h5⟩
   ·exact .inl h
   ·exact .inr ⟨h1, q, h2, h3, h4, app_keep h5⟩
  refine Ht.sq (Ht.rg hxn (Ops.sg 1 1 ?_))
  refine Ops.on 2 (fun h0 e0 => ldc (i := ti22) (h := h0) (r := 2) (off := 0) (cs := [.osl r 0 (init.length + 1) false]) (d := .osl r 0 (init.length + 1) false) (hq_of (g := G) (e0.trans (by kernel_rfl)) g2) rfl) ?_
  refine Ops.sg 3 5 ?_
  refine Ops.on 6 (fun h0 e0 => appC1 (h := h0) (r := r) (n := init.length + 1) (q := G.length) (nm := nm) (hq_of (g := G ++ [rN nm]) (e0.trans (by kernel_rfl)) (mid_get G _ _)) (hq_of (g := G ++ [rN nm]) (e0.trans (by kernel_rfl)) hr') (by rw [List.length_append, gC_len]; simp only [List.length_cons, List.length_nil]; omega) hb) ?_
  refine Ops.sg 1 7 ?_
  refine Ops.on 8 (fun h0 e0 => stc (i := ti22) (h := h0) (r := 2) (off := 0) (cs := [.osl r 0 (init.length + 1) false]) (cs' := [.osl (G ++ [rN nm]).length 0 (init.length + 1 + 1) false]) (x := .osl (G ++ [rN nm]).length 0 (init.length + 1 + 1) false) (hq_of (g := (G ++ [rN nm]).set r .dead ++ [gN init c it nm]) (e0.trans (by kernel_rfl)) (app_keep (set_keep (by omega) hK.g2))) rfl rfl) ?_
  refine Ops.dn (seqH.n (Ht.exit (id := 1) (by kernel_rfl) ?_))
  exact hQ _ _ _ (hK.cls1 hr3 hr' hit' nm) (by kernel_rfl)
abbrev yC (y : S46) : AObj := .cells [.v (.str y.fBase), .v (.str y.fForm), .v (vP eS y.fTags), dI y.fNext, dI y.fWeight]
abbrev zC : AObj := .cells [.v (.str ByteArray.empty), .v (.str ByteArray.empty), .v (.sl .nil []), dI 0, dI 0]
abbrev tk (n : Nat) : AObj := .tok 5 n
abbrev tl (l : List S46) (y : S46) : AObj := .tok 5 (l ++ [y]).length
noncomputable abbrev A17 : Code := cR (cR (cR (cR LI)))
theorem item14 (n m : Nat) (hn : m + 6 ≤ n) {lines : List ByteArray} {i : Int} {s : ByteArray} {y : S46} {ok : Bool} (hf : f30 m s = some (y, ok)) {init : List S44} {c : S44} {r : Nat} {it : D} {cd : D} {G : List AObj} (hI : InvP (init ++ [c]) cd G) (hcd : cd = .osl r 0 (init.length + 1) false)
  (hr3 : 3 ≤ r) (hr : G[r]? = some (.grid 2 (gC init ++ [.v (.str c.fName), it]))) (hit : ItOk G r c.fItems it) (hb : init.length ≤ 1000000) (hb2 : c.fItems.length ≤ 1000000) {Q : Post}
  (hQ1 : ok = false → ∀ σ, Fin14 ⟨[]⟩ ⟨11, i⟩ σ → Q .ret σ)
  (hQ2 : ok = true → ∀ cd' G' σ, InvP (init ++ [⟨c.fName, c.fItems ++ [y]⟩]) cd' G' → Abs.forget KS σ = S14 lines i G' → Q .normal σ) :
  Ht False Tryz.prog A17 (Sm 105 [(2, .ptr 0 0), (3, .ptr 1 0), (4, .v (vP eS lines)), (5, .ptr 2 0), (6, dI i), (10, .v (.str s)), (22, .v (vP eS lines)), (23, dI (lines.length : Int)), (24, dI i)] G) Q := by
 have hxn := hxT n
 have hxw := hxW n
 have hlen := hI.len
 refine Ht.sq (Ht.rg hxn (Ops.sg 1 1 ?_))
 refine Ops.on 2 (fun h0 e0 => call_ok (E' := E) (h := h0) (by kernel_rfl) (Args.v (.str s) (eS s) (by kernel_rfl) Args.nil) (ok30 m s (y, ok) hf n (by omega))) ?_
 refine Ops.sg 4 6 ?_
 refine Ops.on 7 (fun h0 e0 => stc (i := ti47) (h := h0) (r := G.length) (off := 0) (cs := [.v (.str ByteArray.empty), .v (.str ByteArray.empty), .v (.sl .nil []), dI 0, dI 0]) (cs' := [.v (.str y.fBase), .v (.str y.fForm), .v (vP eS y.fTags), dI y.fNext, dI y.fWeight]) (x := .v (e46 y)) (hq_of (g := G ++ [zC]) (e0.trans (by kernel_rfl)) (mid_get G _ _)) rfl rfl) ?_
 refine Ops.sg 1 8 (Ops.dn (seqH.n ?_))
 refine Ht.forget [2, 3, 4, 5, 6, 11, 12, 22, 23, 24] (Ht.st (σ' := Sm 105 [(2, .ptr 0 0), (3, .ptr 1 0), (4, .v (vP eS lines)), (5, .ptr 2 0), (6, dI i), (11, .v (.bool ok)), (12, .ptr G.length 0), (22, .v (vP eS lines)), (23, dI (lines.length : Int)), (24, dI i)] (G ++ [yC y])) (by rw [← mid_set G zC]; kernel_rfl) ?_)
 have hK : InvP (init ++ [c]) cd (G ++ [yC y]) := hI.keep fun r o hr h => app_keep h
 have hrK : (G ++ [yC y])[r]? = some (.grid 2 (gC init ++ [.v (.str c.fName), it])) := app_keep hr
 have hitK : ItOk (G ++ [yC y]) r c.fItems it := by
  rcases hit with h | ⟨h1, q, h2, h3, h4, h5⟩
  ·exact .inl h
  ·exact .inr ⟨h1, q, h2, h3, h4, app_keep h5⟩
 have hyK : (G ++ [yC y])[G.length]? = some (yC y) := mid_get _ _ _
 generalize G ++ [yC y] = K at hK hrK hitK hyK ⊢
 generalize G.length = p at hyK hlen ⊢
 have hKl := hK.len
 refine Ht.sq (Ht.sq (Ht.rg hxn (Ops.sg 2 2 (Ops.dn (seqH.n ?_)))))
 cases ok with
 | false =>
  refine Ht.cond true (by kernel_rfl) (by kernel_rfl) (fun _ => ?_) (fun hc => nomatch hc)
  refine Ht.forget [2, 3, 6] (Ht.st (σ' := Sm 105 [(2, .ptr 0 0), (3, .ptr 1 0), (6, dI i)] K) (by kernel_rfl) ?_)
  exact ret19 n m hn i K hK.g0 hK.g1 (hQ1 rfl)
 | true =>
  refine Ht.cond false (by kernel_rfl) (by kernel_rfl) (fun hc => nomatch hc) (fun _ => ?_)
  refine Ht.sk (seqH.n ?_)
  subst hcd
  have g2 := hK.g2
  have hw : w64 (((init.length + 1 : Nat) : Int) - 1) = (init.length : Int) := by rw [w64_id ⟨by omega, by omega⟩]; omega
  refine Ht.sq (Ht.rg hxn (Ops.sg 1 1 ?_))
  refine Ops.on 2 (fun h0 e0 => ldc (i := ti22) (h := h0) (r := 2) (off := 0) (cs := [.osl r 0 (init.length + 1) false]) (d := .osl r 0 (init.length + 1) false) (hq_of (g := K) (e0.trans (by kernel_rfl)) g2) rfl) ?_
  refine Ops.sg 1 3 ?_
  refine Ops.on 4 (fun h0 e0 => ldc (i := ti22) (h := h0) (r := 2) (off := 0) (cs := [.osl r 0 (init.length + 1) false]) (d := .osl r 0 (init.length + 1) false) (hq_of (g := K) (e0.trans (by kernel_rfl)) g2) rfl) ?_
  refine Ops.sg 2 6 ?_
  refine Ops.on 7 (fun h0 e0 => ixG (h := h0) (r := r) (n := init.length) (x := w64 (((init.length + 1 : Nat) : Int) - 1)) (hq_of (g := K) (e0.trans (by kernel_rfl)) hrK) hw) ?_
  refine Ops.sg 1 8 (Ops.dn (seqH.n ?_))
  refine Ht.forget [2, 3, 4, 5, 6, 12, 13, 22, 23, 24] (Ht.st (σ' := Sm 105 [(2, .ptr 0 0), (3, .ptr 1 0), (4, .v (vP eS lines)), (5, .ptr 2 0), (6, dI i), (12, .ptr p 0), (13, .ptr r (init.length * 2)), (22, .v (vP eS lines)), (23, dI (lines.length : Int)), (24, dI i)] K) (by kernel_rfl) ?_)
  have hnz : c.fItems = [] → c.fItems ++ [y] = [y] := fun h => by rw [h]; rfl
  rcases hitK with ⟨hi0, rfl⟩ | ⟨hi0, q, hq3, hqr, rfl, hqt⟩
  ·refine Ht.rg hxw (Ops.sg 4 4 ?_)
   refine Ops.on 5 (fun h0 e0 => ldg (i := ti43) (h := h0) (r := r) (off := init.length * 2 + 1) (cs := gC init ++ [.v (.str c.fName), .v (.sl .nil [])]) (d := .v (.sl .nil [])) (hq_of (g := K) (e0.trans (by kernel_rfl)) hrK) (cut_it init _ _)) ?_
   refine Ops.on 6 (fun h0 e0 => ldc (i := ti47) (h := h0) (r := p) (off := 0) (d := .v (e46 y)) (hq_of (g := K) (e0.trans (by kernel_rfl)) hyK) rfl) ?_
   refine Ops.sg 1 7 ?_
   refine Ops.on 8 (fun h0 e0 => appI0 h0 y) ?_
   refine Ops.sg 2 10 ?_
   refine Ops.on 11 (fun h0 e0 => stg (i := ti43) (h := h0) (r := r) (off := init.length * 2 + 1) (cs := gC init ++ [.v (.str c.fName), .v (.sl .nil [])]) (cs' := gC init ++ [.v (.str c.fName), .tsl K.length [e46 y]]) (x := .tsl K.length [e46 y]) (hq_of (g := K ++ [tk 1]) (e0.trans (by kernel_rfl)) (app_keep hrK)) rfl (spl_it init _ _ _)) ?_
   refine Ops.dn ?_
   have hz := hK.item (q := K.length) (K := K ++ [tk 1]) rfl hr3 y hKl (by have := lt_of_getElem? hrK; omega) (fun j o hj h => app_keep h) (app_keep hrK) (by rw [hnz hi0]; exact mid_get _ _ _)
   rw [hnz hi0] at hz
   refine hQ2 rfl _ _ _ (by rw [hnz hi0]; exact hz) (by kernel_rfl)
  ·refine Ht.rg hxw (Ops.sg 4 4 ?_)
   refine Ops.on 5 (fun h0 e0 => ldg (i := ti43) (h := h0) (r := r) (off := init.length * 2 + 1) (cs := gC init ++ [.v (.str c.fName), .tsl q (c.fItems.map e46)]) (d := .tsl q (c.fItems.map e46)) (hq_of (g := K) (e0.trans (by kernel_rfl)) hrK) (cut_it init _ _)) ?_
   refine Ops.on 6 (fun h0 e0 => ldc (i := ti47) (h := h0) (r := p) (off := 0) (d := .v (e46 y)) (hq_of (g := K) (e0.trans (by kernel_rfl)) hyK) rfl) ?_
   refine Ops.sg 1 7 ?_
   refine Ops.on 8 (fun h0 e0 => appI1 (h := h0) (q := q) (l := c.fItems) y (hq_of (g := K) (e0.trans (by kernel_rfl)) hqt) hb2) ?_
   refine Ops.sg 2 10 ?_
   refine Ops.on 11 (fun h0 e0 => stg (i := ti43) (h := h0) (r := r) (off := init.length * 2 + 1) (cs := gC init ++ [.v (.str c.fName), .tsl q (c.fItems.map e46)]) (cs' := gC init ++ [.v (.str c.fName), .tsl K.length ((c.fItems ++ [y]).map e46)]) (x := .tsl K.length ((c.fItems ++ [y]).map e46)) (hq_of (g := K.set q .dead ++ [tl c.fItems y]) (e0.trans (by kernel_rfl)) (app_keep (set_keep hqr hrK))) rfl (spl_it init _ _ _)) ?_
   refine Ops.dn ?_
   have hz := hK.item (q := K.length) (K := K.set q .dead ++ [tl c.fItems y]) rfl hr3 y hKl (by have := lt_of_getElem? hrK; omega) (fun j o hj h => app_keep (set_keep (by omega) h)) (app_keep (set_keep hqr hrK)) (by
    have e : K.length = (K.set q AObj.dead).length := by simp
    rw [e]; exact mid_get _ _ _)
   exact hQ2 rfl _ _ _ hz (by kernel_rfl)
noncomputable abbrev LP : Code := cL (cR (cL (cR (cR (cR (cR C14))))))
theorem Bnd.succ {i : Nat} {cl : List S44} (h : Bnd i cl) : Bnd (i + 1) cl := ⟨Nat.le_succ_of_le h.1, fun c hc => Nat.le_succ_of_le (h.2 c hc)⟩
theorem Bnd.cls {i : Nat} {cl : List S44} (h : Bnd i cl) (nm : ByteArray) : Bnd (i + 1) (cl ++ [⟨nm, []⟩]) := ⟨by rw [List.length_append]; exact Nat.succ_le_succ h.1, fun c hc => by
 rcases List.mem_append.1 hc with hc | hc
 ·exact Nat.le_succ_of_le (h.2 c hc)
 ·rw [List.mem_singleton.1 hc]; exact Nat.zero_le _⟩
theorem Bnd.item {i : Nat} {init : List S44} {c : S44} (h : Bnd i (init ++ [c])) (y : S46) : Bnd (i + 1) (init ++ [⟨c.fName, c.fItems ++ [y]⟩]) := ⟨by have := h.1; simp only [List.length_append, List.length_cons, List.length_nil] at this ⊢; omega, fun d hd => by
 rcases List.mem_append.1 hd with hd | hd
 ·exact Nat.le_succ_of_le (h.2 d (List.mem_append_left _ hd))
 ·rw [List.mem_singleton.1 hd]
  have := h.2 c (List.mem_append_right _ List.mem_cons_self)
  show (c.fItems ++ [y]).length ≤ i + 1
  rw [List.length_append]
  exact Nat.succ_le_succ this⟩
theorem loop14 (n m : Nat) (hn : m + 6 ≤ n) {lines : List ByteArray} (hl : lines.length ≤ 1000000) {goal : S26 ⊕ List S44} {Q : Post}
  (hret : ∀ f, goal = .inl f → ∀ σ, Fin14 ⟨[]⟩ f σ → Q .ret σ)
  (hend : ∀ cl cd G σ, goal = .inr cl → InvP cl cd G → Abs.forget [2, 3, 5] σ = Sm 105 [(2, .ptr 0 0), (3, .ptr 1 0), (5, .ptr 2 0)] G → Q (.exit 0) σ)
  {G : List AObj} (hI : InvP [] (.v (.sl .nil [])) G) (hps : parseL m 0 [] lines = some goal) : Ht False Tryz.prog LP (S14 lines 0 G) Q := by
 have hxn := hxT n
 refine Ht.loop (LS m lines goal) lines.length (by kernel_rfl) ⟨0, [], _, G, rfl, Nat.zero_le _, hps, hI, ⟨Nat.zero_le _, fun c hc => nomatch hc⟩, by kernel_rfl⟩ ?_
 clear hps hI G
 rintro k σ ⟨i, cl, cd, G, rfl, hi, hps, hI, hb, hσ⟩
 refine Ht.forget KS (Ht.st hσ ?_)
 clear hσ
 refine Ht.sq (Ht.rg hxn (Ops.sg 1 1 (Ops.dn (seqH.n (Ht.sq ?_)))))
 refine Ht.cond (decide ((i : Int) < (lines.length : Int))) (by kernel_rfl) (by kernel_rfl) (fun hc => ?_) (fun hc => ?_)
 case refine_2 =>
  have hc := of_decide_eq_false hc
  rw [List.drop_eq_nil_of_le (by omega)] at hps
  refine Ht.exit (id := 0) (by kernel_rfl) ?_
  exact hend cl cd G _ (Option.some.inj hps).symm hI (by kernel_rfl)
 have hc := of_decide_eq_true hc
 have hi : i < lines.length := by omega
 obtain ⟨x, hx⟩ : ∃ x, lines[i]? = some x := ⟨_, List.getElem?_eq_getElem hi⟩
 have hix : idx lines (i : Int) = some x := by simp [idx, hx]
 have hdr : lines.drop i = x :: lines.drop (i + 1) := by
  rw [List.drop_eq_getElem_cons hi]
  rw [List.getElem?_eq_getElem hi] at hx
  rw [Option.some.inj hx]
 rw [hdr] at hps
 refine Ht.sk (seqH.n (Ht.sq (Ht.bk 1 (Ht.sq (Ht.rg hxn (Ops.sg 1 1 ?_))))))
 refine Ops.on 2 (fun h0 e0 => ix_r (T := T) h0 29 9 1 .plain eS lines (i : Int) x hix (by kernel_rfl) (by kernel_rfl) (fun _ => rfl)) ?_
 refine Ops.sg 3 5 (Ops.dn (seqH.n ?_))
 refine Ht.forget [2, 3, 4, 5, 6, 7, 22, 23, 24] (Ht.st (σ' := S14a lines (i : Int) x G) (by kernel_rfl) ?_)
 have hwl : w64 ((lines.length : Int) - 1) = (lines.length : Int) - 1 := w64_id ⟨by omega, by omega⟩
 refine Ht.sq (Ht.sq (Ht.rg hxn (Ops.sg 5 5 (Ops.dn (seqH.n ?_)))))
 refine Ht.cond ((i : Int) == w64 (((lines.map eS).length : Int) - 1)) (by kernel_rfl) (by kernel_rfl) (fun hc => ?_) (fun hc => ?_)
 ·have hc : (i : Int) = w64 (((lines.map eS).length : Int) - 1) := by simpa using hc
  rw [List.length_map, hwl] at hc
  rw [List.drop_eq_nil_of_le (by omega)] at hps
  have hps : (if (x.toList == (⟨#[]⟩ : ByteArray).toList) = true then some (Sum.inr cl) else some (Sum.inl ⟨11, (i : Int)⟩)) = some goal := hps
  refine Ht.sq (Ht.sq (Ht.rg hxn (Ops.sg 2 2 (Ops.dn (seqH.n ?_)))))
  refine Ht.cond (!(x.toList == (⟨#[]⟩ : ByteArray).toList)) (by kernel_rfl) (by kernel_rfl) (fun hc => ?_) (fun hc => ?_)
  ·have hc : (x.toList == (⟨#[]⟩ : ByteArray).toList) = false := by simpa using hc
   rw [hc] at hps
   have hps : some (Sum.inl ⟨11, (i : Int)⟩) = some goal := hps
   refine Ht.forget [2, 3, 6] (Ht.st (σ' := Sm 105 [(2, .ptr 0 0), (3, .ptr 1 0), (6, dI (i : Int))] G) (by kernel_rfl) ?_)
   exact ret10 n m hn (i : Int) G hI.g0 hI.g1 (fun σ hσ => hret _ (Option.some.inj hps).symm σ hσ)
  ·have hc : (x.toList == (⟨#[]⟩ : ByteArray).toList) = true := by simpa using hc
   rw [hc] at hps
   have hps : some (Sum.inr cl) = some goal := hps
   refine Ht.sk (seqH.n (Ht.exit (id := 0) (by kernel_rfl) ?_))
   exact hend cl cd G _ (Option.some.inj hps).symm hI (by kernel_rfl)
 ·have hc : ¬ (i : Int) = w64 (((lines.map eS).length : Int) - 1) := by simpa using hc
  rw [List.length_map, hwl] at hc
  obtain ⟨x2, r2, hr2⟩ : ∃ x2 r2, lines.drop (i + 1) = x2 :: r2 := by
   cases h : lines.drop (i + 1) with
   | nil => have := List.drop_eq_nil_iff.1 h; omega
   | cons a b => exact ⟨a, b, rfl⟩
  have hps : (match stepL m (i : Int) cl x with
   | none => none
   | some (.inl f) => some (.inl f)
   | some (.inr cl') => parseL m ((i : Int) + 1) cl' (lines.drop (i + 1))) = some goal := by
   rw [hr2] at hps ⊢
   exact hps
  refine Ht.sk (seqH.n (Ht.sq ?_))
  obtain ⟨nm, ok, hcp⟩ : ∃ nm ok, cutPre x clsB = (nm, ok) := ⟨_, _, rfl⟩
  unfold stepL at hps
  rw [hcp] at hps
  refine Ht.sq (Ht.rg hxn (Ops.sg 1 1 ?_))
  refine Ops.on 2 (fun h0 e0 => call_ok (E' := E) (h := h0) (by kernel_rfl) (Args.v (.str x) (eS x) (by kernel_rfl) (Args.v (.str clsB) (eS clsB) (by kernel_rfl) Args.nil)) (ok29 m x clsB (nm, ok) (congrArg some hcp) n (by omega))) ?_
  refine Ops.sg 5 7 (Ops.dn (seqH.n (Ht.sq (Ht.rg hxn (Ops.sg 1 1 (Ops.dn (seqH.n ?_)))))))
  have hcll : cl.length ≤ 1000000 := by have := hb.1; omega
  cases ok with
  | true =>
   refine Ht.cond true (by kernel_rfl) (by kernel_rfl) (fun _ => ?_) (fun hc => nomatch hc)
   refine Ht.forget [2, 3, 4, 5, 8, 22, 23, 24] (Ht.st (σ' := Sm 105 [(2, .ptr 0 0), (3, .ptr 1 0), (4, .v (vP eS lines)), (5, .ptr 2 0), (8, .v (.str nm)), (22, .v (vP eS lines)), (23, dI (lines.length : Int)), (24, dI (i : Int))] G) (by kernel_rfl) ?_)
   refine class14 n (nm := nm) hI hcll fun cd' G' σ hI' hσ => ?_
   exact next14 n m hl hi hps hI' (hb.cls nm) hσ
  | false =>
   refine Ht.cond false (by kernel_rfl) (by kernel_rfl) (fun hc => nomatch hc) (fun _ => ?_)
   refine Ht.sk (seqH.n ?_)
   refine Ht.forget [2, 3, 4, 5, 6, 7, 22, 23, 24] (Ht.st (σ' := S14a lines (i : Int) x G) (by kernel_rfl) ?_)
   obtain ⟨s, ok2, hcp2⟩ : ∃ s ok, cutPre x itmB = (s, ok) := ⟨_, _, rfl⟩
   simp only [hcp2] at hps
   refine Ht.sq (Ht.rg hxn (Ops.sg 1 1 ?_))
   refine Ops.on 2 (fun h0 e0 => call_ok (E' := E) (h := h0) (by kernel_rfl) (Args.v (.str x) (eS x) (by kernel_rfl) (Args.v (.str itmB) (eS itmB) (by kernel_rfl) Args.nil)) (ok29 m x itmB (s, ok2) (congrArg some hcp2) n (by omega))) ?_
   refine Ops.sg 5 7 (Ops.dn (seqH.n (Ht.sq (Ht.sq ?_))))
   cases ok2 with
   | false =>
    have hps : some (Sum.inl ⟨11, (i : Int)⟩) = some goal := hps
    refine Ht.rg hxn (Ops.sg 8 8 (Ops.dn (seqH.n ?_)))
    refine Ht.cond true (by kernel_rfl) (by kernel_rfl) (fun _ => ?_) (fun hc => nomatch hc)
    refine Ht.forget [2, 3, 6] (Ht.st (σ' := Sm 105 [(2, .ptr 0 0), (3, .ptr 1 0), (6, dI (i : Int))] G) (by kernel_rfl) ?_)
    exact ret16 n m hn (i : Int) G hI.g0 hI.g1 (fun σ hσ => hret _ (Option.some.inj hps).symm σ hσ)
   | true =>
    have g2 := hI.g2
    cases hI.cls with
    | nil =>
     have hps : some (Sum.inl ⟨11, (i : Int)⟩) = some goal := hps
     refine Ht.rg hxn (Ops.sg 4 4 ?_)
     refine Ops.on 5 (fun h0 e0 => ldc (i := ti22) (h := h0) (r := 2) (off := 0) (cs := [.v (.sl .nil [])]) (d := .v (.sl .nil [])) (hq_of (g := G) (e0.trans (by kernel_rfl)) g2) rfl) ?_
     refine Ops.sg 3 8 (Ops.dn (seqH.n ?_))
     refine Ht.cond true (by kernel_rfl) (by kernel_rfl) (fun _ => ?_) (fun hc => nomatch hc)
     refine Ht.forget [2, 3, 6] (Ht.st (σ' := Sm 105 [(2, .ptr 0 0), (3, .ptr 1 0), (6, dI (i : Int))] G) (by kernel_rfl) ?_)
     exact ret16 n m hn (i : Int) G hI.g0 hI.g1 (fun σ hσ => hret _ (Option.some.inj hps).symm σ hσ)
    | cons init c r it hr3 hr hit =>
     refine Ht.rg hxn (Ops.sg 4 4 ?_)
     refine Ops.on 5 (fun h0 e0 => ldc (i := ti22) (h := h0) (r := 2) (off := 0) (cs := [.osl r 0 (init.length + 1) false]) (d := .osl r 0 (init.length + 1) false) (hq_of (g := G) (e0.trans (by kernel_rfl)) g2) rfl) ?_
     refine Ops.sg 3 8 (Ops.dn (seqH.n ?_))
     refine Ht.cond (((init.length + 1 : Nat) : Int) == 0) (by kernel_rfl) (by kernel_rfl) (fun hc => ?_) (fun _ => ?_)
     ·have hc : ((init.length + 1 : Nat) : Int) = 0 := by simpa using hc
      omega
     refine Ht.sk (seqH.n ?_)
     refine Ht.forget [2, 3, 4, 5, 6, 10, 22, 23, 24] (Ht.st (σ' := Sm 105 [(2, .ptr 0 0), (3, .ptr 1 0), (4, .v (vP eS lines)), (5, .ptr 2 0), (6, dI (i : Int)), (10, .v (.str s)), (22, .v (vP eS lines)), (23, dI (lines.length : Int)), (24, dI (i : Int))] G) (by kernel_rfl) ?_)
     have hps : (match (match f30 m s with
      | none => none
      | some (_, false) => some (Sum.inl (⟨11, (i : Int)⟩ : S26) : S26 ⊕ List S44)
      | some (y, true) => some (Sum.inr (addI (init ++ [c]) y))) with
      | none => none
      | some (.inl f) => some (.inl f)
      | some (.inr cl') => parseL m ((i : Int) + 1) cl' (lines.drop (i + 1))) = some goal := by
      cases init <;> exact hps
     obtain ⟨y, ok3, hf⟩ : ∃ y ok, f30 m s = some (y, ok) := by
      cases h : f30 m s with
      | none => rw [h] at hps; cases hps
      | some p => exact ⟨p.1, p.2, rfl⟩
     rw [hf] at hps
     refine item14 n m hn hf hI rfl hr3 hr hit (by have := hb.1; rw [List.length_append] at this; omega) (by have := hb.2 c (List.mem_append_right _ List.mem_cons_self); omega) (fun hok σ hσ => ?_) (fun hok cd' G' σ hI' hσ => ?_)
     ·subst hok
      have hps : some (Sum.inl ⟨11, (i : Int)⟩) = some goal := hps
      exact hret _ (Option.some.inj hps).symm σ hσ
     ·subst hok
      have hps : parseL m ((i : Int) + 1) (addI (init ++ [c]) y) (lines.drop (i + 1)) = some goal := hps
      rw [addI_app] at hps
      exact next14 n m hl hi hps hI' (hb.item y) hσ
end Go.Abs.Xp
