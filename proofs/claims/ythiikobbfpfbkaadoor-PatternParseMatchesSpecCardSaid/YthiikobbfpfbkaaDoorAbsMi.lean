import Derived.Test.YthiikobbfpfbkaaDoorAbsM
import Derived.Shelf.Slices.CompactI
namespace Go.Abs
open Go.Sort Go.Proofs
set_option linter.unusedVariables false
variable {DR : Prop}
def intsV : List V → Option (List Int)
 | [] => some []
 | .int .i64 s :: r => (intsV r).map (s :: ·)
 | _ => none
theorem intsV_map (l : List Int) : intsV (l.map eI) = some l := by
 induction l with
 | nil => rfl
 | cons x r ih => simp only [List.map_cons, eI, intsV]; rw [show (List.map eI r) = List.map eI r from rfl, ih]; rfl
theorem intsV_spec : ∀ {es : List V} {l : List Int}, intsV es = some l → es = l.map eI
 | [], l, h => by cases h; rfl
 | x :: r, l, h => by
  cases x <;> try (cases h; done)
  rename_i k s
  cases k <;> try (cases h; done)
  simp only [intsV] at h
  obtain ⟨l', h1, rfl⟩ := Option.map_eq_some_iff.1 h
  rw [intsV_spec h1]; rfl
def sortI (l : List Int) : List Int := l.mergeSort fun x y => decide (x ≤ y)
def compactI (l : List Int) : List Int := Lib.compact l
def sortFI : List D → List AObj → Option (D × List AObj)
 | [.osl r 0 len false], h => match h[r]? with
  | some (.row 1 es) => if len = es.length ∧ len < 4611686018427387904 then (intsV es).map fun l => (U, h.set r (.row 1 ((sortI l).map eI))) else none
  | _ => none
 | [.v (.sl .nil [])], h => some (U, h)
 | _, _ => none
def compactFI : List D → List AObj → Option (D × List AObj)
 | [.osl r 0 len false], h => match h[r]? with
  | some (.row 1 es) => if len = es.length then (intsV es).map fun l => (.osl r 0 (compactI l).length false, h.set r (.row 1 ((compactI l).map eI))) else none
  | _ => none
 | [.v (.sl .nil [])], h => some (.v (.sl .nil []), h)
 | _, _ => none
theorem row_holdsI {S : Nat → Nat → Prop} {β : Blocks} {w : World} {b c : Nat} {l : List Int} (ho : ObjRel S β w b c 1 (.row 1 (l.map eI))) : Holds (Value.int .i64) w b 0 l.toArray ∧ l.length ≤ c ∧ c ≤ maxLen ∧ ∃ cur e, w.heap[b]? = some (.cells cur e (0, 0)) ∧ cur.size = c := by
 obtain ⟨_, o2, o3, o4, o5, cur, e, o6, o7, o8⟩ := ho
 rw [List.length_map] at o4
 rw [Nat.mul_one] at o7
 refine ⟨fun j hj => ?_, o4, o3, cur, e, o6, o7⟩
 simp only [List.size_toArray, List.length_map] at hj
 have hjc : j < cur.size := by omega
 have hx : (l.map eI)[j]? = some (eI l[j]) := by rw [List.getElem?_map, List.getElem?_eq_getElem hj]; rfl
 have hc := Array.getElem?_eq_getElem hjc
 have hR := o8 j 0 (eI l[j]) (.int .i64 l[j]) cur[j] hx rfl (by rw [Nat.mul_one, Nat.add_zero]; exact hc)
 have hv : cur[j] = .int .i64 l[j] := by
  generalize cur[j] = v at hR
  cases hR; rfl
 constructor
 ·rw [cell_own o6, Nat.zero_add, hc, hv]
  have : (l.toArray)[j]! = l[j] := by
   rw [getElem!_pos _ j (by simpa using hj)]
   simp
  rw [this]
 ·simp [World.frozen?, o6]
theorem row_newI {S : Nat → Nat → Prop} {β : Blocks} {w w' : World} {b c : Nat} {l : List Int} {d : List Int} {cur : Array Value} {e : TypeId} {os : Array Obj} (hb : w.heap[b]? = some (.cells cur e (0, 0))) (hcs : cur.size = c) (hc : c ≤ maxLen)
  (hl : l.length ≤ d.length) (hdc : d.length ≤ c) (hd : ∀ j (hj : j < l.length), d[j]? = some (l[j])) {n : Nat} (hw : w' = grow (putRow (Value.int .i64) (Sort.ahead w n) b 0 d.toArray) os) : ObjRel S β w' b c 1 (.row 1 (l.map eI)) := by
 have hblt : b < w.heap.size := by
  rcases Nat.lt_or_ge b w.heap.size with h | h
  ·exact h
  ·rw [Array.getElem?_eq_none h] at hb; cases hb
 refine ⟨rfl, by omega, hc, by rw [List.length_map]; omega, fun i x hx => ?_, putCells (Value.int .i64) 0 d.toArray cur, e, ?_, ?_, fun i j x y v hx hy hv => ?_⟩
 ·rw [List.getElem?_map] at hx
  obtain ⟨s, _, rfl⟩ := Option.map_eq_some_iff.1 hx
  exact ⟨rfl, rfl⟩
 ·subst hw
  rw [heap_grow_old _ _ (by simpa using hblt)]
  simp only [putRow, mapBlock, heap_ahead, Array.getElem?_modify, if_true, hb, Option.map_some, onCells]
 ·simp only [putCells, Array.size_mapIdx, Nat.mul_one]; exact hcs
 ·rw [List.getElem?_map] at hx
  obtain ⟨s, hs, rfl⟩ := Option.map_eq_some_iff.1 hx
  have hi := lt_of_getElem? hs
  have hj : j = 0 := by
   have := lt_of_getElem? hy
   simp [eI, V.cells] at this
   exact this
  subst hj
  have hy' : y = .int .i64 s := by simpa [eI, V.cells] using hy.symm
  subst hy'
  have hic : i < cur.size := by omega
  simp only [putCells, Nat.mul_one, Nat.add_zero, Array.getElem?_mapIdx, Array.getElem?_eq_getElem hic, Option.map_some, Option.some.injEq] at hv
  rw [if_pos ⟨Nat.zero_le _, by simp; omega⟩, Nat.sub_zero] at hv
  have hdi : d.toArray[i]! = s := by
   have h2 := hd i hi
   rw [List.getElem?_eq_getElem hi] at hs
   cases hs
   rw [getElem!_pos _ i (by simp; omega)]
   rw [List.getElem?_eq_getElem (by omega)] at h2
   simpa using h2
  rw [hdi] at hv
  subst hv
  exact .int .i64 s
theorem sort_soundI {P : Program} {f : Nat} (hI : Is P f) (hc : ∀ (blk off cap : Nat) (ss : List Int) (w : World), Holds (Value.int .i64) w blk off ss.toArray → blk < w.heap.size → ss.length < 4611686018427387904 →
   Calls P f #[.slice (some ⟨blk, off, none⟩) ss.length cap] w fun e w' => e = .returned (.tuple #[]) ∧ ∃ n os, w' = grow (putRow (Value.int .i64) (Sort.ahead w n) blk off (ss.mergeSort fun x y => decide (x ≤ y)).toArray) os)
  (hn : ∀ (p : Option Addr) (cap : Nat) (w : World), Calls P f #[.slice p 0 cap] w fun e w' => e = .returned (.tuple #[]) ∧ w' = w) : DOk DR P f sortFI := by
 refine ⟨hI, fun ds h d h' hd S β w vs hrel hi => ?_⟩
 unfold sortFI at hd
 split at hd
 ·rename_i h0 r len
  obtain ⟨v, rfl, hv⟩ := one_arg hrel
  split at hd
  ·rename_i es hes
   split at hd
   ·rename_i hlen
    obtain ⟨hlen, hbig⟩ := hlen
    obtain ⟨l, hl, he⟩ := Option.map_eq_some_iff.1 hd
    obtain ⟨rfl, rfl⟩ := Prod.mk.inj he
    have hes' := intsV_spec hl
    subst hes'
    cases hv with
    | osl _ _ _ b c k p cap _ hb hlc hp hcap =>
    simp only [Nat.zero_mul] at hp
    subst hp
    obtain rfl : 1 = k := by have := hi.obj r _ b c k hes hb; exact this.1
    obtain ⟨hH, hlc', hcm, cur, e, o6, o7⟩ := row_holdsI (hi.obj r _ b c 1 hes hb)
    have hblt := hi.lt r _ b c 1 hes rfl hb
    rw [List.length_map] at hlen
    subst hlen
    have hcall := hc b 0 cap l w hH hblt hbig
    refine hcall.mono ?_
    rintro ex w' ⟨rfl, n, os, hw⟩
    obtain ⟨e1, e2⟩ := hi.rowTurn (DR := DR) hes hb (w' := w') (es' := (sortI l).map eI) (by rw [hw]; simp [grow]) (fun b' hb' hne => by
      rw [hw, heap_grow_old _ _ (by simpa using hb')]
      simp only [putRow, mapBlock, heap_ahead, Array.getElem?_modify, if_neg (Ne.symm hne)]) (by rw [hw]; rfl) (by rw [hw]; rfl) (by rw [hw]; rfl) (by rw [hw]; exact Nat.le_add_right _ _)
     (fun _ => row_newI o6 o7 hcm (by simp [sortI]) (by simp; exact hlc') (fun j hj => by
      simp only [sortI, List.length_map] at hj
      simp only [sortI, List.getElem_map]
      exact List.getElem?_eq_getElem hj) hw)
    exact ⟨_, S, β, rfl, e1, e2, unit_rel _ _ _⟩
   ·cases hd
  ·cases hd
 ·cases hd
  obtain ⟨v, rfl, hv⟩ := one_arg hrel
  have hv := hv.of_v
  cases hv with
  | slnil _ _ =>
   refine (hn none 0 w).mono ?_
   rintro e w' ⟨rfl, rfl⟩
   exact ⟨_, S, β, rfl, Ext.refl _ _ _, hi, unit_rel _ _ _⟩
  | slemp _ a cap h hf hm => exact absurd rfl h
  | sl _ b off cap k n _ vals hn' h => exact absurd rfl h
 ·cases hd
theorem compact_soundI {P : Program} {f : Nat} (hI : Is P f) (hc : ∀ (blk off cap : Nat) (zs : List Int) (w : World), Holds (Value.int .i64) w blk off zs.toArray → zs.length ≤ 9223372036854775807 → zs.length ≤ cap →
   Calls P f #[.slice (some ⟨blk, off, none⟩) zs.length cap] w fun e w' => e = .returned (.slice (some ⟨blk, off, none⟩) (Lib.compact zs).length cap) ∧ ∃ q, w' = putRow (Value.int .i64) (Sort.ahead w q) blk off (Lib.compact zs ++ List.replicate (zs.length - (Lib.compact zs).length) 0).toArray)
  (hn : ∀ (a : Option Addr) (cap : Nat) (w : World), Calls P f #[.slice a 0 cap] w fun e w' => e = .returned (.slice a 0 cap) ∧ w' = w) : DOk DR P f compactFI := by
 refine ⟨hI, fun ds h d h' hd S β w vs hrel hi => ?_⟩
 unfold compactFI at hd
 split at hd
 ·rename_i h0 r len
  obtain ⟨v, rfl, hv⟩ := one_arg hrel
  split at hd
  ·rename_i es hes
   split at hd
   ·rename_i hlen
    obtain ⟨l, hl, he⟩ := Option.map_eq_some_iff.1 hd
    obtain ⟨rfl, rfl⟩ := Prod.mk.inj he
    have hes' := intsV_spec hl
    subst hes'
    cases hv with
    | osl _ _ _ b c k p cap _ hb hlc hp hcap =>
    simp only [Nat.zero_mul] at hp
    subst hp
    obtain rfl : 1 = k := by have := hi.obj r _ b c k hes hb; exact this.1
    obtain ⟨hH, hlc', hcm, cur, e, o6, o7⟩ := row_holdsI (hi.obj r _ b c 1 hes hb)
    rw [List.length_map] at hlen
    subst hlen
    have hcap' : cap = c := by simpa using hcap
    subst hcap'
    have hcl : (Lib.compact l).length ≤ l.length := by
     unfold Lib.compact Lib.compactUpTo
     rw [List.length_map]
     refine Nat.le_trans (List.length_filter_le _ _) ?_
     simp
    have hcall := hc b 0 cap l w hH (by unfold maxLen at hcm; omega) hlc'
    refine hcall.mono ?_
    rintro ex w' ⟨rfl, n, hw⟩
    have hw' : w' = grow (putRow (Value.int .i64) (Sort.ahead w n) b 0 (Lib.compact l ++ List.replicate (l.length - (Lib.compact l).length) 0).toArray) #[] := by rw [hw]; unfold grow; rw [Array.append_empty]
    obtain ⟨e1, e2⟩ := hi.rowTurn (DR := DR) hes hb (w' := w') (es' := (compactI l).map eI) (by rw [hw]; simp) (fun b' hb' hne => by
      rw [hw]
      simp only [putRow, mapBlock, heap_ahead, Array.getElem?_modify, if_neg (Ne.symm hne)]) (by rw [hw]; rfl) (by rw [hw]; rfl) (by rw [hw]; rfl) (by rw [hw]; exact Nat.le_add_right _ _)
     (fun _ => row_newI o6 o7 hcm (by simp only [compactI, List.length_map, List.length_append]; omega) (by rw [List.length_append, List.length_replicate]; omega) (fun j hj => by
      simp only [compactI, List.length_map] at hj
      simp only [compactI, List.getElem_map]
      rw [List.getElem?_append_left hj]
      exact List.getElem?_eq_getElem hj) hw')
    refine ⟨_, S, β, rfl, e1, e2, ?_⟩
    have hcs : (compactI l).length = (Lib.compact l).length := by simp [compactI]
    rw [hcs]
    exact .osl r 0 _ b cap 1 0 cap false hb (by omega) (by simp) (by simp)
   ·cases hd
  ·cases hd
 ·cases hd
  obtain ⟨v, rfl, hv⟩ := one_arg hrel
  have hv := hv.of_v
  cases hv with
  | slnil _ _ =>
   refine (hn none 0 w).mono ?_
   rintro e w' ⟨rfl, rfl⟩
   exact ⟨_, S, β, rfl, Ext.refl _ _ _, hi, .v _ _ (.slnil _ (by decide))⟩
  | slemp _ a cap h hf hm => exact absurd rfl h
  | sl _ b off cap k n _ vals hn' h => exact absurd rfl h
 ·cases hd
theorem sortI_nil : sortI [] = [] := by simp [sortI]
theorem compactI_nil : compactI [] = [] := by simp [compactI, Lib.compact, Lib.compactUpTo]
theorem sortI_length (l : List Int) : (sortI l).length = l.length := by simp [sortI]
def srtI (xs : List Int) : Option (List Int) := if xs.length < 4611686018427387904 then some (sortI xs) else none
theorem row_sortI (h : List AObj) (q : Nat) (xs zs : List Int) (hx : srtI xs = some zs) (hq : h[q]? = some (rowO 1 (xs.map eI))) : sortFI [rowD q (xs.map eI)] h = some (U, h.set q (rowO 1 (zs.map eI))) := by
 unfold srtI at hx
 split at hx <;> try (cases hx; done)
 rename_i hbig
 cases hx
 cases xs with
 | nil =>
  rw [sortI_nil]
  simp only [List.map_nil, rowD, rowF, rowO, sortFI] at hq ⊢
  rw [set_same hq]
 | cons x r =>
  have h1 : rowD q ((x :: r).map eI) = .osl q 0 ((x :: r).map eI).length false := rfl
  have h2 : rowO 1 ((x :: r).map eI) = .row 1 ((x :: r).map eI) := rfl
  rw [h2] at hq
  rw [h1]
  simp only [sortFI, hq]
  rw [if_pos ⟨trivial, by rw [List.length_map]; exact hbig⟩, intsV_map, Option.map_some]
  have h3 : rowO 1 ((sortI (x :: r)).map eI) = .row 1 ((sortI (x :: r)).map eI) := by
   cases hs : sortI (x :: r) with
   | nil => have := sortI_length (x :: r); rw [hs] at this; simp at this
   | cons a b => rfl
  rw [h3]
theorem srtI_row {xs zs : List Int} (q : Nat) (hx : srtI xs = some zs) : rowF .nil q (xs.map eI) = rowF .nil q (zs.map eI) := by
 unfold srtI at hx
 split at hx <;> try (cases hx; done)
 cases hx
 have hl := sortI_length xs
 cases xs with
 | nil => rw [sortI_nil]
 | cons x r =>
  cases hs : sortI (x :: r) with
  | nil => rw [hs] at hl; simp at hl
  | cons a b =>
   rw [hs] at hl
   simp only [List.length_cons] at hl
   simp only [List.map_cons, rowF, List.length_cons, List.length_map, hl]
theorem compactI_cons (x : Int) (r : List Int) : compactI (x :: r) ≠ [] := by
 intro h
 unfold compactI at h
 unfold Lib.compact Lib.compactUpTo at h
 have h := List.map_eq_nil_iff.1 h
 have := List.filter_eq_nil_iff.1 h 0 (by simp)
 exact this (Lib.keeps_lt_one _ 0 (by omega))
theorem row_compactI (h : List AObj) (q : Nat) (xs : List Int) (hq : h[q]? = some (rowO 1 (xs.map eI))) : compactFI [rowD q (xs.map eI)] h = some (rowD q ((compactI xs).map eI), h.set q (rowO 1 ((compactI xs).map eI))) := by
 cases xs with
 | nil =>
  rw [compactI_nil]
  simp only [List.map_nil, rowD, rowF, rowO, compactFI] at hq ⊢
  rw [set_same hq]
 | cons x r =>
  have h1 : rowD q ((x :: r).map eI) = .osl q 0 ((x :: r).map eI).length false := rfl
  have h2 : rowO 1 ((x :: r).map eI) = .row 1 ((x :: r).map eI) := rfl
  rw [h2] at hq
  rw [h1]
  simp only [compactFI, hq, if_true, intsV_map, Option.map_some]
  have h3 : rowO 1 ((compactI (x :: r)).map eI) = .row 1 ((compactI (x :: r)).map eI) ∧ rowD q ((compactI (x :: r)).map eI) = .osl q 0 (compactI (x :: r)).length false := by
   cases hs : compactI (x :: r) with
   | nil => exact absurd hs (compactI_cons x r)
   | cons a b => exact ⟨rfl, by simp [rowD, rowF]⟩
  rw [h3.1, h3.2]
end Go.Abs
