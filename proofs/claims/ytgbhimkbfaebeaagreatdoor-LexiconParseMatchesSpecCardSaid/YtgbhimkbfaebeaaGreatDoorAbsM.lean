import Derived.Test.YtgbhimkbfaebeaaGreatDoorAbsRw
import Derived.Test.YtgbhimkbfaebeaaGreatDoorAbsN
import Derived.Test.YtgbhimkbfaebeaaGreatDoorAbsV
import Derived.Shelf.Sort.Plain
import Derived.Shelf.Slices.CompactS
namespace Go.Abs
open Go.Sort Go.Proofs
set_option linter.unusedVariables false
set_option linter.unusedSimpArgs false
set_option linter.unnecessarySimpa false
variable {DR : Prop}
theorem HInv.rowTurn {S : Nat → Nat → Prop} {β : Blocks} {w w' : World} {h : List AObj} (hi : HInv S β w h) {r b c k : Nat} {es es' : List V} (hr : h[r]? = some (.row k es)) (hb : β[r]? = some (b, c, k))
  (hsize : w.heap.size ≤ w'.heap.size) (hrest : ∀ b', b' < w.heap.size → b' ≠ b → w'.heap[b']? = w.heap[b']?) (hos : w'.os = w.os) (htape : w'.tape = w.tape) (hout : w'.output = w.output) (hdr : w.drawn ≤ w'.drawn)
  (hnew : Keeps S w S w' → ObjRel S β w' b c k (.row k es')) : Ext DR S β w S β w' ∧ HInv S β w' (h.set r (.row k es')) := by
 have hno : ∀ i, ¬ S b i := fun i hs => absurd (hi.own r _ b c k i hr rfl hb hs) (Nat.not_lt_zero _)
 have hne : ∀ b' i, S b' i → b' ≠ b := fun b' i hs e => hno i (e ▸ hs)
 have hk : Keeps S w S w' := fun b' i hs => ⟨hs, look_of_block (hrest b' (hi.sb b' i hs) (hne b' i hs))⟩
 have hlt := lt_of_getElem? hr
 obtain ⟨k1, hk1⟩ := hi.kpos hr rfl hb
 refine ⟨⟨hk, fun _ _ h => h, hsize, fun b' hb' hn => hrest b' hb' (fun e => hn r c k1 (by rw [← hk1]; exact e ▸ hb)), fun r b c k h => .inr ⟨r, c, k, h⟩, hos, htape, hout, fun _ => hdr, fun _ _ h => .inl h⟩, ?_⟩
 have live : ∀ (r' : Nat) (o : AObj), (h.set r (.row k es'))[r']? = some o → o.live = true → ∃ o', h[r']? = some o' ∧ o'.live = true := by
  intro r' o ho hl
  rw [List.getElem?_set] at ho
  split at ho
  ·rename_i e; subst e; exact ⟨_, hr, rfl⟩
  ·exact ⟨o, ho, hl⟩
 refine ⟨by rw [List.length_set]; exact hi.len, fun r' o b' c' k' ho hb' => ?_, fun r' o b' c' k' ho hl hb' => ?_, fun r1 r2 o1 o2 b' c1 k1 c2 k2 h1 l1 h2 l2 h3 h4 => ?_, fun r' o b' c' k' i ho hl hb' hs => ?_, fun b' i hs => Nat.lt_of_lt_of_le (hi.sb b' i hs) hsize, hi.gl.mono hk, fun r b' c k g => Nat.lt_of_lt_of_le (hi.dl r b' c k g) hsize⟩
 ·rw [List.getElem?_set] at ho
  split at ho
  ·rename_i e
   subst e
   cases ho
   rw [hb] at hb'
   cases hb'
   exact hnew hk
  ·rename_i e
   refine (hi.obj r' o b' c' k' ho hb').mono hk (fun _ _ h => h) fun hl => hrest b' (hi.lt r' o b' c' k' ho hl hb') fun eb => ?_
   subst eb
   exact e (hi.inj r' r o _ b' c' k' c k ho hl hr rfl hb' hb).symm
 ·obtain ⟨o', h1, h2⟩ := live r' o ho hl
  exact Nat.lt_of_lt_of_le (hi.lt r' o' b' c' k' h1 h2 hb') hsize
 ·obtain ⟨o1', g1, m1⟩ := live r1 o1 h1 l1
  obtain ⟨o2', g2, m2⟩ := live r2 o2 h2 l2
  exact hi.inj r1 r2 o1' o2' b' c1 k1 c2 k2 g1 m1 g2 m2 h3 h4
 ·rw [List.getElem?_set] at ho
  split at ho
  ·rename_i e
   subst e
   rw [hb] at hb'
   cases hb'
   exact absurd hs (hno i)
  ·exact hi.own r' o b' c' k' i ho hl hb' hs
def strs : List V → Option (List ByteArray)
 | [] => some []
 | .str s :: r => (strs r).map (s :: ·)
 | _ => none
theorem strs_map (l : List ByteArray) : strs (l.map eS) = some l := by
 induction l with
 | nil => rfl
 | cons x r ih => simp only [List.map_cons, eS, strs]; rw [show (List.map eS r) = List.map eS r from rfl, ih]; rfl
theorem strs_spec : ∀ {es : List V} {l : List ByteArray}, strs es = some l → es = l.map eS
 | [], l, h => by cases h; rfl
 | x :: r, l, h => by
  cases x <;> try (cases h; done)
  simp only [strs] at h
  obtain ⟨l', h1, rfl⟩ := Option.map_eq_some_iff.1 h
  rw [strs_spec h1]; rfl
def bl (s : ByteArray) : List UInt8 := s.data.toList
def ba (l : List UInt8) : ByteArray := ⟨l.toArray⟩
theorem ba_bl (s : ByteArray) : ba (bl s) = s := by cases s; simp [ba, bl]
theorem bl_ba (l : List UInt8) : bl (ba l) = l := by simp [ba, bl]
def sortS (l : List ByteArray) : List ByteArray := ((l.map bl).mergeSort fun x y => decide (x ≤ y)).map ba
def compactS (l : List ByteArray) : List ByteArray := (Lib.compact (l.map bl)).map ba
def sortF : List D → List AObj → Option (D × List AObj)
 | [.osl r 0 len false], h => match h[r]? with
  | some (.row 1 es) => if len = es.length ∧ len < 4611686018427387904 then (strs es).map fun l => (U, h.set r (.row 1 ((sortS l).map eS))) else none
  | _ => none
 | [.v (.sl .nil [])], h => some (U, h)
 | _, _ => none
def compactF : List D → List AObj → Option (D × List AObj)
 | [.osl r 0 len false], h => match h[r]? with
  | some (.row 1 es) => if len = es.length then (strs es).map fun l => (.osl r 0 (compactS l).length false, h.set r (.row 1 ((compactS l).map eS))) else none
  | _ => none
 | [.v (.sl .nil [])], h => some (.v (.sl .nil []), h)
 | _, _ => none
def DOk (DR : Prop) (P : Program) (f : FuncId) (F : List D → List AObj → Option (D × List AObj)) : Prop := Is P f ∧ ∀ ds h d h', F ds h = some (d, h') → ∀ S β w vs, RelL S β w vs ds → HInv S β w h →
 Calls P f vs w fun e w' => ∃ v S' β', e = .returned v ∧ Ext DR S β w S' β' w' ∧ HInv S' β' w' h' ∧ RelD S' β' w' v d
theorem one_arg {S : Nat → Nat → Prop} {β : Blocks} {w : World} {vs : Array Value} {d : D} (h : RelL S β w vs [d]) : ∃ v, vs = #[v] ∧ RelD S β w v d := by
 obtain ⟨h1, h2⟩ := h
 have hsz : vs.size = 1 := h1
 refine ⟨vs[0], ?_, h2 0 vs[0] d (Array.getElem?_eq_getElem (by omega)) rfl⟩
 obtain ⟨l⟩ := vs
 match l, hsz with
 | [a], _ => rfl
theorem unit_rel (S : Nat → Nat → Prop) (β : Blocks) (w : World) : RelD S β w (.tuple #[]) U := .v _ _ (.tuple _ _ rfl fun i v x hv => by simp at hv)
theorem row_holds {S : Nat → Nat → Prop} {β : Blocks} {w : World} {b c : Nat} {l : List ByteArray} (ho : ObjRel S β w b c 1 (.row 1 (l.map eS))) : Holds encStr w b 0 (l.map bl).toArray ∧ l.length ≤ c ∧ c ≤ maxLen ∧ ∃ cur e, w.heap[b]? = some (.cells cur e (0, 0)) ∧ cur.size = c := by
 obtain ⟨_, o2, o3, o4, o5, cur, e, o6, o7, o8⟩ := ho
 rw [List.length_map] at o4
 rw [Nat.mul_one] at o7
 refine ⟨fun j hj => ?_, o4, o3, cur, e, o6, o7⟩
 simp only [List.size_toArray, List.length_map] at hj
 have hjc : j < cur.size := by omega
 have hx : (l.map eS)[j]? = some (eS l[j]) := by rw [List.getElem?_map, List.getElem?_eq_getElem hj]; rfl
 have hc := Array.getElem?_eq_getElem hjc
 have hR := o8 j 0 (eS l[j]) (.str l[j]) cur[j] hx rfl (by rw [Nat.mul_one, Nat.add_zero]; exact hc)
 have hv : cur[j] = .string l[j] := by
  generalize cur[j] = v at hR
  cases hR; rfl
 constructor
 ·rw [cell_own o6, Nat.zero_add, hc, hv]
  have : ((l.map bl).toArray)[j]! = bl l[j] := by
   rw [getElem!_pos _ j (by simpa using hj)]
   simp
  rw [this]
  exact congrArg (fun x => some (Value.string x)) (ba_bl l[j]).symm
 ·simp [World.frozen?, o6]
theorem row_new {S : Nat → Nat → Prop} {β : Blocks} {w w' : World} {b c : Nat} {l : List ByteArray} {d : List (List UInt8)} {cur : Array Value} {e : TypeId} {os : Array Obj} (hb : w.heap[b]? = some (.cells cur e (0, 0))) (hcs : cur.size = c) (hc : c ≤ maxLen)
  (hl : l.length ≤ d.length) (hdc : d.length ≤ c) (hd : ∀ j (hj : j < l.length), d[j]? = some (bl l[j])) {n : Nat} (hw : w' = grow (putRow encStr (Sort.ahead w n) b 0 d.toArray) os) : ObjRel S β w' b c 1 (.row 1 (l.map eS)) := by
 have hblt : b < w.heap.size := by
  rcases Nat.lt_or_ge b w.heap.size with h | h
  ·exact h
  ·rw [Array.getElem?_eq_none h] at hb; cases hb
 refine ⟨rfl, by omega, hc, by rw [List.length_map]; omega, fun i x hx => ?_, putCells encStr 0 d.toArray cur, e, ?_, ?_, fun i j x y v hx hy hv => ?_⟩
 ·rw [List.getElem?_map] at hx
  obtain ⟨s, _, rfl⟩ := Option.map_eq_some_iff.1 hx
  exact ⟨rfl, rfl⟩
 ·subst hw
  rw [heap_grow_old _ _ (by simpa using hblt)]
  simp only [putRow, mapBlock, heap_ahead, Array.getElem?_modify, if_true, hb, Option.map_some, onCells]
 ·simp only [putCells, Array.size_mapIdx, Nat.mul_one]; exact hcs
 ·rw [List.getElem?_map] at hx
  obtain ⟨s, hs, rfl⟩ := Option.map_eq_some_iff.1 hx
  have hi := lt_of_getElem? hs
  have hj : j = 0 := by
   have := lt_of_getElem? hy
   simp [eS, V.cells] at this
   exact this
  subst hj
  have hy' : y = .str s := by simpa [eS, V.cells] using hy.symm
  subst hy'
  have hic : i < cur.size := by omega
  simp only [putCells, Nat.mul_one, Nat.add_zero, Array.getElem?_mapIdx, Array.getElem?_eq_getElem hic, Option.map_some, Option.some.injEq] at hv
  rw [if_pos ⟨Nat.zero_le _, by simp; omega⟩, Nat.sub_zero] at hv
  have hdi : d.toArray[i]! = bl s := by
   have h2 := hd i hi
   rw [List.getElem?_eq_getElem hi] at hs
   cases hs
   rw [getElem!_pos _ i (by simp; omega)]
   rw [List.getElem?_eq_getElem (by omega)] at h2
   simpa using h2
  rw [hdi] at hv
  subst hv
  have : encStr (bl s) = .string s := congrArg Value.string (ba_bl s)
  rw [this]
  exact .str s
theorem sort_sound {P : Program} {f : Nat} (hI : Is P f) (hc : ∀ (blk off cap : Nat) (ss : List (List UInt8)) (w : World), Holds encStr w blk off ss.toArray → blk < w.heap.size → ss.length < 4611686018427387904 →
   Calls P f #[.slice (some ⟨blk, off, none⟩) ss.length cap] w fun e w' => e = .returned (.tuple #[]) ∧ ∃ n os, w' = grow (putRow encStr (Sort.ahead w n) blk off (ss.mergeSort fun x y => decide (x ≤ y)).toArray) os)
  (hn : ∀ (p : Option Addr) (cap : Nat) (w : World), Calls P f #[.slice p 0 cap] w fun e w' => e = .returned (.tuple #[]) ∧ w' = w) : DOk DR P f sortF := by
 refine ⟨hI, fun ds h d h' hd S β w vs hrel hi => ?_⟩
 unfold sortF at hd
 split at hd
 ·rename_i h0 r len
  obtain ⟨v, rfl, hv⟩ := one_arg hrel
  split at hd
  ·rename_i es hes
   split at hd
   ·rename_i hlen
    obtain ⟨hlen, hbig⟩ := hlen
    obtain ⟨l, hl, he⟩ := Option.map_eq_some_iff.1 hd
    obtain ⟨rfl, rfl⟩ := Prod.mk.inj he
    have hes' := strs_spec hl
    subst hes'
    cases hv with
    | osl _ _ _ b c k p cap _ hb hlc hp hcap =>
    simp only [Nat.zero_mul] at hp
    subst hp
    obtain rfl : 1 = k := by have := hi.obj r _ b c k hes hb; exact this.1
    obtain ⟨hH, hlc', hcm, cur, e, o6, o7⟩ := row_holds (hi.obj r _ b c 1 hes hb)
    have hblt := hi.lt r _ b c 1 hes rfl hb
    rw [List.length_map] at hlen
    subst hlen
    have hcall := hc b 0 cap (l.map bl) w hH hblt (by rw [List.length_map]; exact hbig)
    rw [List.length_map] at hcall
    refine hcall.mono ?_
    rintro ex w' ⟨rfl, n, os, hw⟩
    obtain ⟨e1, e2⟩ := hi.rowTurn (DR := DR) hes hb (w' := w') (es' := (sortS l).map eS) (by rw [hw]; simp [grow]) (fun b' hb' hne => by
      rw [hw, heap_grow_old _ _ (by simpa using hb')]
      simp only [putRow, mapBlock, heap_ahead, Array.getElem?_modify, if_neg (Ne.symm hne)]) (by rw [hw]; rfl) (by rw [hw]; rfl) (by rw [hw]; rfl) (by rw [hw]; exact Nat.le_add_right _ _)
     (fun _ => row_new o6 o7 hcm (by simp [sortS]) (by simp; exact hlc') (fun j hj => by
      simp only [sortS, List.length_map] at hj
      simp only [sortS, List.getElem_map, bl_ba]
      exact List.getElem?_eq_getElem hj) hw)
    exact ⟨_, S, β, rfl, e1, e2, unit_rel _ _ _⟩
   ·cases hd
  ·cases hd
 ·cases hd
  obtain ⟨v, rfl, hv⟩ := one_arg hrel
  have hv := hv.of_v
  cases hv with
  | slnil _ _ =>
   refine (hn none 0 w).mono ?_
   rintro e w' ⟨rfl, rfl⟩
   exact ⟨_, S, β, rfl, Ext.refl _ _ _, hi, unit_rel _ _ _⟩
  | slemp _ a cap h hf hm => exact absurd rfl h
  | sl _ b off cap k n _ vals hn' h => exact absurd rfl h
 ·cases hd
theorem compact_sound {P : Program} {f : Nat} (hI : Is P f) (hc : ∀ (blk off cap : Nat) (zs : List (List UInt8)) (w : World), Holds encStr w blk off zs.toArray → zs.length ≤ 9223372036854775807 → zs.length ≤ cap →
   Calls P f #[.slice (some ⟨blk, off, none⟩) zs.length cap] w fun e w' => e = .returned (.slice (some ⟨blk, off, none⟩) (Lib.compact zs).length cap) ∧ ∃ q, w' = putRow encStr (Sort.ahead w q) blk off (Lib.compact zs ++ List.replicate (zs.length - (Lib.compact zs).length) []).toArray)
  (hn : ∀ (a : Option Addr) (cap : Nat) (w : World), Calls P f #[.slice a 0 cap] w fun e w' => e = .returned (.slice a 0 cap) ∧ w' = w) : DOk DR P f compactF := by
 refine ⟨hI, fun ds h d h' hd S β w vs hrel hi => ?_⟩
 unfold compactF at hd
 split at hd
 ·rename_i h0 r len
  obtain ⟨v, rfl, hv⟩ := one_arg hrel
  split at hd
  ·rename_i es hes
   split at hd
   ·rename_i hlen
    obtain ⟨l, hl, he⟩ := Option.map_eq_some_iff.1 hd
    obtain ⟨rfl, rfl⟩ := Prod.mk.inj he
    have hes' := strs_spec hl
    subst hes'
    cases hv with
    | osl _ _ _ b c k p cap _ hb hlc hp hcap =>
    simp only [Nat.zero_mul] at hp
    subst hp
    obtain rfl : 1 = k := by have := hi.obj r _ b c k hes hb; exact this.1
    obtain ⟨hH, hlc', hcm, cur, e, o6, o7⟩ := row_holds (hi.obj r _ b c 1 hes hb)
    rw [List.length_map] at hlen
    subst hlen
    have hcap' : cap = c := by simpa using hcap
    subst hcap'
    have hcl : (Lib.compact (l.map bl)).length ≤ l.length := by
     unfold Lib.compact Lib.compactUpTo
     rw [List.length_map]
     refine Nat.le_trans (List.length_filter_le _ _) ?_
     rw [List.length_range, List.length_map]
     exact Nat.le_refl _
    have hcall := hc b 0 cap (l.map bl) w hH (by rw [List.length_map]; unfold maxLen at hcm; omega) (by rw [List.length_map]; exact hlc')
    rw [List.length_map] at hcall
    refine hcall.mono ?_
    rintro ex w' ⟨rfl, n, hw⟩
    have hw' : w' = grow (putRow encStr (Sort.ahead w n) b 0 (Lib.compact (l.map bl) ++ List.replicate (l.length - (Lib.compact (l.map bl)).length) []).toArray) #[] := by rw [hw]; unfold grow; rw [Array.append_empty]
    obtain ⟨e1, e2⟩ := hi.rowTurn (DR := DR) hes hb (w' := w') (es' := (compactS l).map eS) (by rw [hw]; simp) (fun b' hb' hne => by
      rw [hw]
      simp only [putRow, mapBlock, heap_ahead, Array.getElem?_modify, if_neg (Ne.symm hne)]) (by rw [hw]; rfl) (by rw [hw]; rfl) (by rw [hw]; rfl) (by rw [hw]; exact Nat.le_add_right _ _)
     (fun _ => row_new o6 o7 hcm (by simp only [compactS, List.length_map, List.length_append]; omega) (by rw [List.length_append, List.length_replicate]; omega) (fun j hj => by
      simp only [compactS, List.length_map] at hj
      simp only [compactS, List.getElem_map, bl_ba]
      rw [List.getElem?_append_left hj]
      exact List.getElem?_eq_getElem hj) hw')
    refine ⟨_, S, β, rfl, e1, e2, ?_⟩
    have hcs : (compactS l).length = (Lib.compact (l.map bl)).length := by simp [compactS]
    rw [hcs]
    exact .osl r 0 _ b cap 1 0 cap false hb (by omega) (by simp) (by simp)
   ·cases hd
  ·cases hd
 ·cases hd
  obtain ⟨v, rfl, hv⟩ := one_arg hrel
  have hv := hv.of_v
  cases hv with
  | slnil _ _ =>
   refine (hn none 0 w).mono ?_
   rintro e w' ⟨rfl, rfl⟩
   exact ⟨_, S, β, rfl, Ext.refl _ _ _, hi, .v _ _ (.slnil _ (by decide))⟩
  | slemp _ a cap h hf hm => exact absurd rfl h
  | sl _ b off cap k n _ vals hn' h => exact absurd rfl h
 ·cases hd
theorem sortS_nil : sortS [] = [] := by simp [sortS]
theorem compactS_nil : compactS [] = [] := by simp [compactS, Lib.compact, Lib.compactUpTo]
theorem sortS_length (l : List ByteArray) : (sortS l).length = l.length := by simp [sortS]
def srt (xs : List ByteArray) : Option (List ByteArray) := if xs.length < 4611686018427387904 then some (sortS xs) else none
theorem row_sort (h : List AObj) (q : Nat) (xs zs : List ByteArray) (hx : srt xs = some zs) (hq : h[q]? = some (rowO 1 (xs.map eS))) : sortF [rowD q (xs.map eS)] h = some (U, h.set q (rowO 1 (zs.map eS))) := by
 unfold srt at hx
 split at hx <;> try (cases hx; done)
 rename_i hbig
 cases hx
 cases xs with
 | nil =>
  rw [sortS_nil]
  simp only [List.map_nil, rowD, rowF, rowO, sortF] at hq ⊢
  rw [set_same hq]
 | cons x r =>
  have h1 : rowD q ((x :: r).map eS) = .osl q 0 ((x :: r).map eS).length false := rfl
  have h2 : rowO 1 ((x :: r).map eS) = .row 1 ((x :: r).map eS) := rfl
  rw [h2] at hq
  rw [h1]
  simp only [sortF, hq]
  rw [if_pos ⟨trivial, by rw [List.length_map]; exact hbig⟩, strs_map, Option.map_some]
  have h3 : rowO 1 ((sortS (x :: r)).map eS) = .row 1 ((sortS (x :: r)).map eS) := by
   cases hs : sortS (x :: r) with
   | nil => have := sortS_length (x :: r); rw [hs] at this; simp at this
   | cons a b => rfl
  rw [h3]
theorem srt_row {xs zs : List ByteArray} (q : Nat) (hx : srt xs = some zs) : rowF .nil q (xs.map eS) = rowF .nil q (zs.map eS) := by
 unfold srt at hx
 split at hx <;> try (cases hx; done)
 cases hx
 have hl := sortS_length xs
 cases xs with
 | nil => rw [sortS_nil]
 | cons x r =>
  cases hs : sortS (x :: r) with
  | nil => rw [hs] at hl; simp at hl
  | cons a b =>
   rw [hs] at hl
   simp only [List.length_cons] at hl
   simp only [List.map_cons, rowF, List.length_cons, List.length_map, hl]
theorem compactS_cons (x : ByteArray) (r : List ByteArray) : compactS (x :: r) ≠ [] := by
 intro h
 unfold compactS at h
 have h := List.map_eq_nil_iff.1 h
 unfold Lib.compact Lib.compactUpTo at h
 have h := List.map_eq_nil_iff.1 h
 have := List.filter_eq_nil_iff.1 h 0 (by simp)
 exact this (Lib.keeps_lt_one _ 0 (by omega))
theorem row_compact (h : List AObj) (q : Nat) (xs : List ByteArray) (hq : h[q]? = some (rowO 1 (xs.map eS))) : compactF [rowD q (xs.map eS)] h = some (rowD q ((compactS xs).map eS), h.set q (rowO 1 ((compactS xs).map eS))) := by
 cases xs with
 | nil =>
  rw [compactS_nil]
  simp only [List.map_nil, rowD, rowF, rowO, compactF] at hq ⊢
  rw [set_same hq]
 | cons x r =>
  have h1 : rowD q ((x :: r).map eS) = .osl q 0 ((x :: r).map eS).length false := rfl
  have h2 : rowO 1 ((x :: r).map eS) = .row 1 ((x :: r).map eS) := rfl
  rw [h2] at hq
  rw [h1]
  simp only [compactF, hq, if_true, strs_map, Option.map_some]
  have h3 : rowO 1 ((compactS (x :: r)).map eS) = .row 1 ((compactS (x :: r)).map eS) ∧ rowD q ((compactS (x :: r)).map eS) = .osl q 0 (compactS (x :: r)).length false := by
   cases hs : compactS (x :: r) with
   | nil => exact absurd hs (compactS_cons x r)
   | cons a b => exact ⟨rfl, by simp [rowD, rowF]⟩
  rw [h3.1, h3.2]
theorem flat_eS (xs : List ByteArray) : (xs.map eS).all V.flat = true := by
 rw [List.all_eq_true]
 intro x hx
 obtain ⟨s, _, rfl⟩ := List.mem_map.1 hx
 rfl
end Go.Abs
