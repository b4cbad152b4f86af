import Derived.Test.YtgmbaemdedachaaAbsRw
import Derived.Test.YtgmbaemdedachaaAbsH
import Derived.Shelf.Sort.Plain
import Derived.Shelf.Slices.CompactS
import Derived.Shelf.SlSortCmp.WholeK
import Derived.MapKept
namespace Go.Abs
open Go.Sort Go.Proofs
set_option linter.unusedVariables false
set_option linter.unusedSimpArgs false
set_option linter.unnecessarySimpa false
variable {DR : Prop}
variable {S : Nat → Nat → Prop} {w : World} {β : Blocks}
theorem HInv.rowTurn {w' : World} {h : List AObj} (hi : HInv S β w h) {r b c k : Nat} {es es' : List V} (hr : h[r]? = some (.row k es)) (hb : β[r]? = some (b, c, k))
  (hsize : w.heap.size ≤ w'.heap.size) (hrest : ∀ b', b' < w.heap.size → b' ≠ b → w'.heap[b']? = w.heap[b']?) (hos : w'.os = w.os) (htape : w'.tape = w.tape) (hout : w'.output = w.output) (hdr : w.drawn ≤ w'.drawn)
  (hnew : Keeps S w S w' → ObjRel S β w' b c k (.row k es')) : Ext DR S β w S β w' ∧ HInv S β w' (h.set r (.row k es')) := by
 have hno : ∀ i, ¬ S b i := fun i hs => absurd (hi.own r _ b c k i hr rfl hb hs) (Nat.not_lt_zero _)
 have hne : ∀ b' i, S b' i → b' ≠ b := fun b' i hs e => hno i (e ▸ hs)
 have hk : Keeps S w S w' := fun b' i hs => ⟨hs, look_of_block (hrest b' (hi.sb b' i hs) (hne b' i hs))⟩
 have hlt := yE hr
 obtain ⟨k1, hk1⟩ := hi.kpos hr rfl hb
 refine ⟨⟨hk, fun _ _ h => h, hsize, fun b' hb' hn => hrest b' hb' (fun e => hn r c k1 (by rw [← hk1]; exact e ▸ hb)), fun r b c k h => .inr ⟨r, c, k, h⟩, hos, htape, hout, fun _ => hdr, fun _ _ h => .inl h⟩, ?_⟩
 have live : ∀ (r' : Nat) (o : AObj), (h.set r (.row k es'))[r']? = some o → o.live = true → ∃ o', h[r']? = some o' ∧ o'.live = true := by
  intro r' o ho hl
  rw [zR] at ho
  split at ho
  ·rename_i e; subst e; exact ⟨_, hr, rfl⟩
  ·exact ⟨o, ho, hl⟩
 refine ⟨by rw [zP]; exact hi.len, fun r' o b' c' k' ho hb' => ?_, fun r' o b' c' k' ho hl hb' => ?_, fun r1 r2 o1 o2 b' c1 k1 c2 k2 h1 l1 h2 l2 h3 h4 => ?_, fun r' o b' c' k' i ho hl hb' hs => ?_, fun b' i hs => Nat.lt_of_lt_of_le (hi.sb b' i hs) hsize, hi.gl.mono hk, fun r b' c k g => Nat.lt_of_lt_of_le (hi.dl r b' c k g) hsize⟩
 ·rw [zR] at ho
  split at ho
  ·rename_i e
   subst e
   cases ho
   rw [hb] at hb'
   cases hb'
   exact hnew hk
  ·rename_i e
   refine (hi.obj r' o b' c' k' ho hb').mono hk (fun _ _ h => h) fun hl => hrest b' (hi.lt r' o b' c' k' ho hl hb') fun eb => ?_
   subst eb
   exact e (hi.inj r' r o _ b' c' k' c k ho hl hr rfl hb' hb).symm
 ·obtain ⟨o', h1, h2⟩ := live r' o ho hl
  exact Nat.lt_of_lt_of_le (hi.lt r' o' b' c' k' h1 h2 hb') hsize
 ·obtain ⟨o1', g1, m1⟩ := live r1 o1 h1 l1
  obtain ⟨o2', g2, m2⟩ := live r2 o2 h2 l2
  exact hi.inj r1 r2 o1' o2' b' c1 k1 c2 k2 g1 m1 g2 m2 h3 h4
 ·rw [zR] at ho
  split at ho
  ·rename_i e
   subst e
   rw [hb] at hb'
   cases hb'
   exact absurd hs (hno i)
  ·exact hi.own r' o b' c' k' i ho hl hb' hs
def bl (s : ByteArray) : List UInt8 := s.data.toList
def DOk (DR : Prop) (P : Program) (f : FuncId) (F : List D → List AObj → Option (D × List AObj)) : Prop := Is P f ∧ ∀ ds h d h', F ds h = some (d, h') → ∀ S β w vs, RelL S β w vs ds → HInv S β w h →
 Calls P f vs w fun e w' => ∃ v S' β', e = .returned v ∧ Ext DR S β w S' β' w' ∧ HInv S' β' w' h' ∧ RelD S' β' w' v d
theorem one_arg {vs : Array Value} {d : D} (h : RelL S β w vs [d]) : ∃ v, vs = #[v] ∧ RelD S β w v d := by
 obtain ⟨h1, h2⟩ := h
 have hsz : vs.size = 1 := h1
 refine ⟨vs[0], ?_, h2 0 vs[0] d (zD om) rfl⟩
 obtain ⟨l⟩ := vs
 match l, hsz with
 | [a], _ => rfl
theorem unit_rel (S : Nat → Nat → Prop) (β : Blocks) (w : World) : RelD S β w (.tuple #[]) U := .v _ _ (.tuple _ _ rfl fun i v x hv => by simp at hv)
variable {DR : Prop}
theorem grown_of {w w' : World} (hs : w.heap.size ≤ w'.heap.size) (hr : ∀ b, b < w.heap.size → w'.heap[b]? = w.heap[b]?) (ho : w'.os = w.os) (ht : w'.tape = w.tape) (hp : w'.output = w.output) (hd : w.drawn ≤ w'.drawn) : ∃ q os, w' = grow (w.drewN q) os := by
 refine ⟨w'.drawn - w.drawn, w'.heap.extract w.heap.size w'.heap.size, ?_⟩
 obtain ⟨heap', tape', drawn', os', output'⟩ := w'
 obtain ⟨heap, tape, drawn, os, output⟩ := w
 simp only at hs hr ho ht hp hd
 subst ho ht hp
 have h1 : heap' = heap ++ heap'.extract heap.size heap'.size := by
  refine Array.ext_getElem? fun i => ?_
  rw [Array.getElem?_append]
  split
  ·rename_i h; exact hr i h
  ·rename_i h
   rw [Array.getElem?_extract]
   split
   ·congr 1; omega
   ·rw [Array.getElem?_eq_none om]
 simp only [grow, World.drewN, World.mk.injEq, true_and, and_true]
 exact ⟨h1, om⟩
section
variable {α : Type} [Inhabited α] {enc : α → List Value} {k : Nat} {w : World} {blk off : Nat} {dk : Array α}
theorem sw_size (m : Nat) (os : Array Obj) : w.heap.size ≤ (sortWorldK enc k w blk off m dk os).heap.size := by
 simp [sortWorldK, grow, putRowK, putRow, mapBlock]
theorem sw_old (m : Nat) (os : Array Obj) {b : Nat} (hb : b < w.heap.size) (hne : b ≠ blk) : (sortWorldK enc k w blk off m dk os).heap[b]? = w.heap[b]? := by
 unfold sortWorldK
 rw [heap_grow_old _ _ (by simpa [putRowK, putRow, mapBlock] using hb)]
 simp only [putRowK, putRow, mapBlock, heap_ahead, Array.getElem?_modify, if_neg (Ne.symm hne)]
theorem sw_row (m : Nat) (os : Array Obj) {cur : Array Value} {e : TypeId} (hg : w.heap[blk]? = some (.cells cur e (0, 0))) : (sortWorldK enc k w blk off m dk os).heap[blk]? = some (.cells (putCells id off (flatK enc k dk) cur) e (0, 0)) := by
 have hb : blk < w.heap.size := (Array.getElem?_eq_some_iff.1 hg).1
 unfold sortWorldK
 rw [heap_grow_old _ _ (by simpa [putRowK, putRow, mapBlock] using hb)]
 simp only [putRowK, putRow, mapBlock, heap_ahead, Array.getElem?_modify, if_true, hg, Option.map_some, onCells]
end
def CmpOk {α : Type} (P : Program) (g : Nat) (enc : α → V) (cf : α → α → Int) : Prop := ∀ (x y : α) S w us, RelL S [] w us [.v (enc x), .v (enc y)] → (∀ b i, S b i → b < w.heap.size) → Glob S w →
 Calls P g us w fun e w' => e = .returned (.int .i64 (cf x y)) ∧ ∃ S', Ext True S [] w S' [] w'
def sortFnF {α : Type} (k : Nat) (g : FuncId) (dec : V → Option α) (enc : α → V) (srt : List α → List α) : List D → List AObj → Option (D × List AObj)
 | [.osl r 0 len false, .v (.fn g')], h => match h[r]? with
  | some (.row k' es) => if k' = k ∧ g' = g ∧ len = es.length ∧ 0 < len ∧ len < 4611686018427387904 then (allM dec es).map fun l => (U, h.set r (.row k ((srt l).map enc))) else none
  | _ => none
 | [.v (.sl .nil []), .v (.fn g')], h => if g' = g then some (U, h) else none
 | _, _ => none
theorem allM_dec {α : Type} {dec : V → Option α} {enc : α → V} (henc : ∀ v a, dec v = some a → v = enc a) : ∀ {es : List V} {l : List α}, allM dec es = some l → es = l.map enc
 | [], l, h => by simp [allM] at h; subst h; rfl
 | v :: r, l, h => by
  simp only [allM] at h
  split at h
  ·rename_i y ys hy hys
   cases h
   rw [henc v y hy, allM_dec henc hys]; rfl
  ·cases h
theorem sortFn_sound {α : Type} {P : Program} {f g k : Nat} {dec : V → Option α} {enc : α → V} {srt : List α → List α} (hI : Is P f) (cf : α → α → Int) (hcmp : CmpOk P g enc cf) (hO : SWO (ltOf cf))
  (henc : ∀ v a, dec v = some a → v = enc a) (hk0 : 0 < k) (hcells : ∀ a, ∃ cs, enc a = .agg cs ∧ cs.length = k ∧ cs.all V.scalar = true)
  (hc : ∀ {β : Type} [Inhabited β] (enc' : β → List Value) (cf' : β → β → Int) (blk off cap : Nat) (d : Array β) (w : World), (∀ x, (enc' x).length = k) → (∀ x, ∀ v ∈ enc' x, v.oneCell' = true) → SWO (ltOf cf') → CmpLays P g #[] enc' k cf' blk off d.size w → HoldsK enc' k w blk off d → blk < w.heap.size → d.size < 4611686018427387904 →
   Calls P f #[.slice (some ⟨blk, off, none⟩) d.size cap, .func (.func g) #[] #[]] w fun e w' => e = .returned (.tuple #[]) ∧ ∃ d' n os, PermIn 0 d.size d d' ∧ SortedIn (ltOf cf') 0 d.size d' ∧ w' = sortWorldK enc' k w blk off n d' os)
  (hn : ∀ (p : Option Addr) (cap : Nat) (fv : Value) (w : World), Calls P f #[.slice p 0 cap, fv] w fun e w' => e = .returned (.tuple #[]) ∧ w' = w)
  (hsrt : ∀ l l' : List α, l'.Perm l → l'.Pairwise (fun a b => ltOf cf b a = false) → l' = srt l) : DOk DR P f (sortFnF k g dec enc srt) := by
 refine ⟨hI, fun ds h d h' hd S β w vs hrel hi => ?_⟩
 unfold sortFnF at hd
 split at hd
 ·rename_i h0 r len g'
  have h2 : vs.size = 2 := hrel.1
  obtain ⟨v1, v2, rfl⟩ := size_two h2
  have hv := hrel.2 0 v1 _ rfl rfl
  have hf := (hrel.2 1 v2 _ rfl rfl).of_v
  split at hd
  case h_2 => cases hd
  rename_i k' es hes
  split at hd
  case isFalse => cases hd
  rename_i hcond
  obtain ⟨rfl, rfl, rfl, hpos, hbig⟩ := hcond
  obtain ⟨l, hl, he⟩ := zB.1 hd
  obtain ⟨rfl, rfl⟩ := zM he
  have hes' := allM_dec henc hl
  subst hes'
  rw [List.length_map] at hpos hbig
  cases hf
  cases hv with
  | osl _ _ _ b c kk p cap _ hb hlc hp hcap =>
  simp only [Nat.zero_mul] at hp
  subst hp
  have hob := hi.obj r _ b c kk hes hb
  obtain ⟨rfl, _, o3, o4, o5, cur, e, o6, o7, o8⟩ := hob
  have hblt := hi.lt r _ b c k' hes rfl hb
  rw [List.length_map] at o4
  have hno : ∀ i, ¬ S b i := fun i hs => absurd (hi.own r _ b c k' i hes rfl hb hs) (Nat.not_lt_zero _)
  -- the elements, with the values that stand for them
  let A := { p : α × Array Value // RelV S w (.agg p.2) (enc p.1) }
  have hfit : ∀ i, i < l.length → ∀ j, j < k' → i * k' + j < cur.size := by
   intro i hi' j hj
   have := mul_lt_of (k := k') hi' hj
   rw [o7]
   exact Nat.lt_of_lt_of_le this (yD _ o4)
  have hel : ∀ i (hi' : i < l.length), RelV S w (.agg ((Array.range k').map fun j => cur[i * k' + j]!)) (enc l[i]) := by
   intro i hi'
   obtain ⟨cs, hcs, hcl, hsc⟩ := hcells l[i]
   rw [hcs]
   refine .agg _ _ (by simp [hcl]) fun j v x hv hx => ?_
   have hj : j < k' := by rw [← hcl]; exact yE hx
   rw [Array.getElem?_map, Array.getElem?_range, if_pos hj] at hv
   have hlt := hfit i hi' j hj
   simp only [Option.map_some, Option.some.injEq] at hv
   rw [getElem!_pos cur _ hlt] at hv
   refine o8 i j (enc l[i]) x v (by rw [zG, zA hi']; rfl) (by rw [hcs]; exact hx) ?_
   rw [zD hlt, hv]
  let d : Array A := Array.ofFn (n := l.length) fun i => ⟨(l[i], (Array.range k').map fun j => cur[i.val * k' + j]!), hel i.val i.isLt⟩
  have hds : d.size = l.length := Array.size_ofFn
  have hdget : ∀ i (hi' : i < l.length), d[i]'(by rw [hds]; exact hi') = ⟨(l[i], (Array.range k').map fun j => cur[i * k' + j]!), hel i hi'⟩ := fun i hi' => Array.getElem_ofFn _
  haveI : Inhabited A := ⟨⟨(l[0], (Array.range k').map fun j => cur[0 * k' + j]!), hel 0 hpos⟩⟩
  let enc' : A → List Value := fun p => p.1.2.toList
  let cf' : A → A → Int := fun p q => cf p.1.1 q.1.1
  have hlen' : ∀ x : A, (enc' x).length = k' := by
   rintro ⟨⟨a, arr⟩, hr⟩
   obtain ⟨cs, hcs, hcl, hsc⟩ := hcells a
   have hr' : RelV S w (.agg arr) (enc a) := hr
   rw [hcs] at hr'
   cases hr' with
   | agg _ _ hl' _ => show arr.toList.length = k'; rw [Array.length_toList, hl', hcl]
  have hone : ∀ x : A, ∀ v ∈ enc' x, v.oneCell' = true := by
   rintro ⟨⟨a, arr⟩, hr⟩ v hv
   obtain ⟨cs, hcs, hcl, hsc⟩ := hcells a
   have hr' : RelV S w (.agg arr) (enc a) := hr
   have hsol : (enc a).solid = true := by rw [hcs]; exact hsc
   exact hr'.cells_one hsol v hv
  have hO' : SWO (ltOf cf') := ⟨fun x => hO.irrefl x.1.1, fun x y z => hO.trans x.1.1 y.1.1 z.1.1, fun x y z => hO.ntrans x.1.1 y.1.1 z.1.1⟩
  have hkW : ∀ m (dk : Array A) os, Keeps S w S (sortWorldK enc' k' w b 0 m dk os) := fun m dk os b' i hs => ⟨hs, look_of_block (sw_old m os (hi.sb b' i hs) fun e => hno i (e ▸ hs))⟩
  have hlays : CmpLays P g' #[] enc' k' cf' b 0 d.size w := by
   intro m os dk hdk x y
   refine (hcmp x.1.1 y.1.1 S (sortWorldK enc' k' w b 0 m dk os) _ ⟨rfl, fun i v dd hv hd => ?_⟩ (fun b' i hs => Nat.lt_of_lt_of_le (hi.sb b' i hs) (sw_size m os)) (hi.gl.mono (hkW m dk os))).mono ?_
   ·match i with
    | 0 => simp at hv hd; subst hv; subst hd; exact .v _ _ (x.2.mono (hkW m dk os))
    | 1 => simp at hv hd; subst hv; subst hd; exact .v _ _ (y.2.mono (hkW m dk os))
    | i + 2 => simp at hv
   ·rintro e' w' ⟨rfl, S', hE⟩
    exact ⟨rfl, grown_of hE.size (fun b' hb' => hE.rest b' hb' fun r c k hr => by simp at hr) hE.os hE.tape hE.output (hE.drawn trivial)⟩
  have hflat : ∀ q, q < l.length * k' → (flatK enc' k' d)[q]! = cur[q]! := by
   intro q hq
   rw [get_flatK _ _ _ _ (by rw [hds]; exact hq)]
   have hqi : q / k' < l.length := Nat.div_lt_of_lt_mul (by rw [Nat.mul_comm]; exact hq)
   have hqj : q % k' < k' := Nat.mod_lt _ hk0
   rw [getElem!_pos d _ (by rw [hds]; exact hqi), hdget _ hqi]
   show ((Array.range k').map fun j => cur[q / k' * k' + j]!).toList[q % k']! = _
   rw [getElem!_pos _ _ (by simp; exact hqj)]
   simp only [Array.getElem_toList, Array.getElem_map, Array.getElem_range]
   rw [Nat.mul_comm, Nat.div_add_mod]
  have hH : HoldsK enc' k' w b 0 d := by
   intro q hq
   rw [size_flatK, hds] at hq
   have hqc : q < cur.size := by rw [o7]; exact Nat.lt_of_lt_of_le hq (yD _ o4)
   refine ⟨?_, by simp [World.frozen?, o6]⟩
   rw [hflat q hq, cell_own o6, Nat.zero_add, zD hqc, getElem!_pos cur q hqc]
   rfl
  have hcall := hc enc' cf' b 0 cap d w hlen' hone hO' hlays hH hblt (by rw [hds]; exact hbig)
  rw [hds] at hcall
  have hargs : (#[Value.slice (some ⟨b, 0, none⟩) (List.map enc l).length cap, .func (.func g') #[] #[]] : Array Value) = #[.slice (some ⟨b, 0, none⟩) l.length cap, .func (.func g') #[] #[]] := by rw [List.length_map]
  rw [hargs]
  refine hcall.mono ?_
  rintro ex w' ⟨rfl, d', n, os, ⟨hp1, _, hp3⟩, hso, hw⟩
  rw [hds] at hp1
  have hperm : d'.toList.Perm d.toList := by
   have e1 : d'.extract 0 l.length = d' := by rw [← hp1]; simp
   have e2 : d.extract 0 l.length = d := by rw [← hds]; simp
   rw [e1, e2] at hp3
   exact hp3
  have hdl : d.toList.map (fun p => p.1.1) = l := by
   refine List.ext_getElem? fun i => ?_
   rw [zG]
   by_cases hi' : i < l.length
   ·rw [zA (by simpa [hds] using hi'), zA hi', Array.getElem_toList, hdget i hi']; rfl
   ·rw [zS (by simp [hds]; omega), zS om]; rfl
  have hsorted : (d'.toList.map fun p => p.1.1) = srt l := by
   refine hsrt l _ (by have := hperm.map (fun p : A => p.1.1); rwa [hdl] at this) ?_
   rw [List.pairwise_map, List.pairwise_iff_getElem]
   intro i j hi' hj hij
   have hj' : j < l.length := by rw [← hp1]; simpa using hj
   have := hso i j (Nat.zero_le _) hij hj'
   rw [getElem!_pos d' j om, getElem!_pos d' i om] at this
   simpa [cf', ltOf] using this
  have hcurs : cur.size = c * k' := o7
  have hrow := sw_row (enc := enc') (k := k') (off := 0) (dk := d') n os o6
  rw [← hw] at hrow
  obtain ⟨e1, e2⟩ := hi.rowTurn (DR := DR) hes hb (w' := w') (es' := (srt l).map enc) (by rw [hw]; exact sw_size n os) (fun b' hb' hne => by rw [hw]; exact sw_old n os hb' hne)
   (by rw [hw]; rfl) (by rw [hw]; rfl) (by rw [hw]; rfl) (by rw [hw]; exact Nat.le_add_right _ _)
   (fun hK => by
    refine ⟨rfl, hk0, o3, by rw [← hsorted]; simp; omega, fun i x hx => ?_, _, e, hrow, by simp [putCells, hcurs], fun i j x y v hx hy hv => ?_⟩
    ·rw [zG] at hx
     obtain ⟨a, _, rfl⟩ := zB.1 hx
     obtain ⟨cs, hcs, hcl, hsc⟩ := hcells a
     rw [hcs]
     exact ⟨hsc, hcl⟩
    ·rw [← hsorted, List.map_map, zG] at hx
     obtain ⟨p, hp, rfl⟩ := zB.1 hx
     have hid : i < d'.size := by have := yE hp; simpa using this
     have hid' : i < l.length := by rw [← hp1]; exact hid
     have hpd : d'[i] = p := by
      rw [zA (by simpa using hid)] at hp
      simpa using hp
     obtain ⟨cs, hcs, hcl, hsc⟩ := hcells p.1.1
     have hy' : cs[j]? = some y := by simpa [hcs, V.cells] using hy
     have hj : j < k' := by rw [← hcl]; exact yE hy'
     have hlt := hfit i hid' j hj
     have hq : i * k' + j < d'.size * k' := mul_lt_of hid hj
     simp only [putCells, Array.getElem?_mapIdx, zD hlt, Option.map_some, Option.some.injEq] at hv
     rw [if_pos ⟨Nat.zero_le _, by rw [size_flatK]; omega⟩, Nat.sub_zero, get_flatK _ _ _ _ hq, div_mul_add hj, mod_mul_add hj, getElem!_pos d' i hid, hpd] at hv
     have hr := p.2
     rw [hcs] at hr
     have hr' : RelV S w (.agg p.1.2) (.agg cs) := hr
     cases hr' with
     | agg _ _ hl' hcell =>
     have hjs : j < p.1.2.size := by omega
     have hv' : p.1.2[j]? = some v := by
      rw [zD hjs, ← hv]
      show some p.1.2[j] = some (id (p.1.2.toList[j]!))
      rw [getElem!_pos p.1.2.toList j (by simpa using hjs)]
      simp
     exact (hcell j v y hv' hy').mono hK)
  exact ⟨_, S, β, rfl, e1, e2, unit_rel _ _ _⟩
 ·rename_i h0 g'
  have h2 : vs.size = 2 := hrel.1
  obtain ⟨v1, v2, rfl⟩ := size_two h2
  have hv := (hrel.2 0 v1 _ rfl rfl).of_v
  split at hd
  case isFalse => cases hd
  cases hd
  cases hv with
  | slnil _ _ =>
   refine (hn none 0 v2 w).mono ?_
   rintro e w' ⟨rfl, rfl⟩
   exact ⟨_, S, β, rfl, Ext.refl _ _ _, hi, unit_rel _ _ _⟩
  | slemp _ a cap h hf hm => exact absurd rfl h
  | sl _ b off cap k n _ vals hn' h => exact absurd rfl h
 ·cases hd
set_option maxRecDepth 100000
structure TO {α : Type} (c : α → α → Int) : Prop where
 eq : ∀ x y, c x y = 0 ↔ x = y
 sw : ∀ x y, c x y < 0 ↔ 0 < c y x
 tr : ∀ x y z, c x y < 0 → c y z < 0 → c x z < 0
section
variable {α : Type} {c : α → α → Int}
theorem TO.refl (h : TO c) (x : α) : c x x = 0 := (h.eq x x).2 rfl
theorem TO.lt_iff (x y : α) : ltOf c x y = true ↔ c x y < 0 := by simp [ltOf]
theorem TO.lt_false (x y : α) : ltOf c x y = false ↔ 0 ≤ c x y := by
 rw [← Bool.not_eq_true, TO.lt_iff]; omega
theorem TO.swo (h : TO c) : SWO (ltOf c) := by
 refine ⟨fun x => ?_, fun x y z h1 h2 => ?_, fun x y z h1 h2 => ?_⟩
 ·rw [TO.lt_false, h.refl]; exact Int.le_refl _
 ·rw [TO.lt_iff] at *
  exact h.tr x y z h1 h2
 ·rw [TO.lt_false] at *
  rcases Int.lt_or_eq_of_le h1 with h1 | h1
  ·rcases Int.lt_or_eq_of_le h2 with h2 | h2
   ·have a := (h.sw y x).2 h1
    have b := (h.sw z y).2 h2
    have := (h.sw z x).1 (h.tr z y x b a)
    omega
   ·obtain rfl := (h.eq y z).1 h2.symm
    omega
  ·obtain rfl := (h.eq x y).1 h1.symm
   exact h2
theorem TO.tot (h : TO c) (x y : α) (h1 : ltOf c x y = false) (h2 : ltOf c y x = false) : x = y := by
 rw [TO.lt_false] at *
 by_cases h3 : c x y = 0
 ·exact (h.eq x y).1 h3
 ·have := (h.sw y x).2 om
  omega
def leC (c : α → α → Int) (a b : α) : Bool := !(ltOf c b a)
def srtC (c : α → α → Int) (l : List α) : List α := l.mergeSort (leC c)
theorem srtC_perm (l : List α) : (srtC c l).Perm l := List.mergeSort_perm l (leC c)
theorem srtC_sorted (h : TO c) (l : List α) : (srtC c l).Pairwise fun a b => ltOf c b a = false := by
 have h := List.pairwise_mergeSort (le := leC c) (fun x y z h1 h2 => ?_) (fun a b => ?_) l
 ·exact h.imp fun {a b} h => by simpa [leC] using h
 ·simp only [leC, Bool.not_eq_true'] at *
  exact h.swo.ntrans z y x h2 h1
 ·simp only [leC, Bool.or_eq_true, Bool.not_eq_true']
  cases hq : ltOf c b a with
  | false => exact .inl rfl
  | true =>
   right
   cases hr : ltOf c a b with
   | false => rfl
   | true => have := h.swo.trans a b a hr hq; rw [h.swo.irrefl] at this; cases this
theorem srtC_uniq (h : TO c) : ∀ {l l' : List α}, l.Perm l' → l.Pairwise (fun a b => ltOf c b a = false) → l'.Pairwise (fun a b => ltOf c b a = false) → l = l'
 | [], l', hp, _, _ => (List.nil_perm.1 hp).symm
 | x :: r, [], hp, _, _ => absurd hp.length_eq (by simp)
 | x :: r, y :: s, hp, h1, h2 => by
  have a1 := List.pairwise_cons.1 h1
  have a2 := List.pairwise_cons.1 h2
  have hxy : x = y := by
   rcases List.mem_cons.1 (hp.mem_iff.1 (zH (a := x) (l := r))) with e | hx
   ·exact e
   ·rcases List.mem_cons.1 (hp.mem_iff.2 (zH (a := y) (l := s))) with e | hy
    ·exact e.symm
    ·exact h.tot x y (a2.1 x hx) (a1.1 y hy)
  subst hxy
  rw [srtC_uniq h (List.Perm.cons_inv hp) a1.2 a2.2]
theorem srtC_is (h : TO c) (l l' : List α) (hp : l'.Perm l) (hs : l'.Pairwise fun a b => ltOf c b a = false) : l' = srtC c l :=
 srtC_uniq h (hp.trans (srtC_perm l).symm) hs (srtC_sorted h l)
end
theorem allM_map {α β γ : Type} {f : β → Option γ} {k : α → β} {r : α → γ} : ∀ (l : List α), (∀ x ∈ l, f (k x) = some (r x)) → allM f (l.map k) = some (l.map r)
 | [], _ => rfl
 | x :: l, h => by
  simp only [List.map_cons, allM, h x zH, allM_map l fun y hy => h y (zF _ hy)]
end Go.Abs
