import Derived.Test.YtgmbaemdedachaaTR
import Derived.Test.YtgmbaemdedachaaAbsTO
import Derived.Test.YtgmbaemdedachaaSL
import Derived.Test.YtgmbaemdedachaaSM
import Derived.Shelf.SlSortCmp.NoneTotal
import Derived.Shelf.SlSortCmp.Whole1
namespace Go.Abs.Ts
open Go.Sort Go.Proofs Go.Abs.Ta Go.Abs.Tb Go.Abs.Tc Go.Abs.Te Go.Abs.Tf Go.Abs.Tg Go.Abs.Th
set_option linter.unusedVariables false
set_option linter.unusedSimpArgs false
set_option linter.unnecessarySimpa false
set_option maxRecDepth 100000
abbrev HP : Type := Fin 1048576 × Fin 1048576
def hp (x : HP) : S111 := ⟨(x.1.val : Int), (x.2.val : Int)⟩
def cfH (x y : HP) : Int := if x.1.val = y.1.val then (x.2.val : Int) - (y.2.val : Int) else (x.1.val : Int) - (y.1.val : Int)
theorem toH : TO cfH := by
 refine ⟨fun x y => ⟨fun h => ?_, fun h => by subst h; simp [cfH]⟩, fun x y => ?_, fun x y z => ?_⟩
 ·unfold cfH at h
  split at h
  ·exact Prod.ext (Fin.ext om) (Fin.ext om)
  ·omega
 ·unfold cfH
  split <;> split <;> omega
 ·unfold cfH
  split <;> split <;> split <;> omega
theorem f71_eq (m : Nat) (x y : HP) : f71 m (hp x) (hp y) = some (cfH x y) := by
 have a1 := x.1.isLt
 have a2 := x.2.isLt
 have b1 := y.1.isLt
 have b2 := y.2.isLt
 unfold f71 cfH hp
 dsimp only
 rw [w64_id ⟨om, om⟩, w64_id ⟨om, om⟩]
 by_cases h : x.1.val = y.1.val
 ·rw [if_pos h]; simp [h]
 ·rw [if_neg h]
  rw [show (((x.1.val : Int) != (y.1.val : Int))) = true by simp; omega]
  rfl
abbrev encH (x : HP) : V := e111 (hp x)
theorem cmp71 : CmpOk Try.prog 71 encH cfH := by
 intro x y S w us hrel hs hg
 obtain ⟨d, h', h1, h2⟩ := ok71 6 (hp x) (hp y) (cfH x y) (f71_eq _ x y) 20 om
 refine ((pureCalls (good0 (DR := True)) (xs := [encH x, encH y]) h1 h2).2 S w us hrel hs hg).mono ?_
 rintro e w' ⟨v, S', rfl, hE, _, hR⟩
 cases hR
 exact ⟨rfl, S', hE⟩
def decH : V → Option HP
 | .agg [.int .i64 a, .int .i64 b] => if h : (0 ≤ a ∧ a < 1048576) ∧ (0 ≤ b ∧ b < 1048576) then some (⟨a.toNat, om⟩, ⟨b.toNat, om⟩) else none
 | _ => none
theorem decH_spec {v : V} {a : HP} (h : decH v = some a) : v = encH a := by
 unfold decH at h
 split at h
 ·split at h
  ·rename_i hc
   cases h
   unfold encH e111 hp
   simp only [Int.toNat_of_nonneg hc.1.1, Int.toNat_of_nonneg hc.2.1]
  ·cases h
 ·cases h
theorem decH_e (a : HP) : decH (encH a) = some a := by
 have h1 := a.1.isLt
 have h2 := a.2.isLt
 simp only [decH, encH, e111, hp, vI]
 rw [dif_pos ⟨⟨om, om⟩, om, om⟩]
 exact congrArg some (Prod.ext (Fin.ext (by simp)) (Fin.ext (by simp)))
theorem allM_decH (l : List HP) : allM decH (l.map encH) = some l := by
 have := allM_map (f := decH) (k := encH) (r := fun s => s) l fun s _ => decH_e s
 rw [List.map_id'] at this
 exact this
theorem is70 : Is Try.prog 70 := ⟨Try.f70, Try.func70, kr, kr⟩
def sort70F : List D → List AObj → Option (D × List AObj) := sortFnF 2 71 decH encH (srtC cfH)
theorem sort70 : DOk False Try.prog 70 sort70F :=
 sortFn_sound is70 cfH cmp71 toH.swo (fun _ _ h => decH_spec h) (by decide) (fun a => ⟨_, rfl, rfl, rfl⟩)
  (fun enc' cf' blk off cap d w hk h1 hO hc hH hb hs => AnyQ.slices_SortFunc Try.laysS70 2 (fun w => by kernel_rfl) (fun w => by kernel_rfl) enc' hk h1 cf' hO 71 #[] blk off cap d w (enters_of Try.func71 kr rfl) hc hH hb hs)
  (fun p cap fv w => AnyF.slices_SortFunc_none Try.laysS70 p cap fv w) (srtC_is toH)
theorem srtH_length (l : List HP) : (srtC cfH l).length = l.length := (srtC_perm l).length_eq
def cmpL : List HP → List HP → Int
 | [], [] => 0
 | [], _ :: _ => -1
 | _ :: _, [] => 1
 | x :: xs, y :: ys => if cfH x y = 0 then cmpL xs ys else cfH x y
theorem cmpL_eq : ∀ x y, cmpL x y = 0 ↔ x = y
 | [], [] => by simp [cmpL]
 | [], _ :: _ => by simp [cmpL]
 | _ :: _, [] => by simp [cmpL]
 | x :: xs, y :: ys => by
  have h1 := toH.eq x y
  have h2 := cmpL_eq xs ys
  unfold cmpL
  split
  ·rename_i h; rw [h2, List.cons.injEq]; simp [h1.1 h]
  ·rename_i h
   rw [List.cons.injEq]
   exact ⟨fun e => absurd e h, fun e => absurd (h1.2 e.1) h⟩
theorem cmpL_sw : ∀ x y, cmpL x y < 0 ↔ 0 < cmpL y x
 | [], [] => by simp [cmpL]
 | [], _ :: _ => by simp [cmpL]
 | _ :: _, [] => by simp [cmpL]
 | x :: xs, y :: ys => by
  have h1 := toH.eq x y
  have h2 := cmpL_sw xs ys
  have h3 := toH.sw x y
  have h4 := toH.eq y x
  unfold cmpL
  split
  ·rename_i h
   have e := h1.1 h
   subst e
   rw [if_pos h]
   exact h2
  ·rename_i h
   rw [if_neg (fun e => h (h1.2 (h4.1 e).symm))]
   exact h3
theorem cmpL_tr : ∀ x y z, cmpL x y < 0 → cmpL y z < 0 → cmpL x z < 0
 | [], [], _ => by simp [cmpL]
 | _ :: _, [], z => by simp [cmpL]
 | x, _ :: _, [] => by cases x <;> simp [cmpL]
 | [], _ :: _, _ :: _ => by simp [cmpL]
 | x :: xs, y :: ys, z :: zs => by
  have ih := cmpL_tr xs ys zs
  have h3 := toH.tr x y z
  unfold cmpL
  split
  ·rename_i h
   have e := (toH.eq x y).1 h
   subst e
   split
   ·exact ih
   ·exact fun _ h => h
  ·rename_i h
   split
   ·rename_i h'
    have e := (toH.eq y z).1 h'
    subst e
    rw [if_neg h]
    exact fun h _ => h
   ·intro a b
    have c := h3 a b
    rw [if_neg om]
    exact c
abbrev hps (l : List HP) : List S111 := l.map hp
theorem f75_iter (m0 : Nat) (a b : List HP) (ha : a.length ≤ 1048576) : ∀ (m i : Nat), i ≤ a.length → i ≤ b.length → a.length < m + i →
  brk (iter (fun (y : Int) => f75c71_B1 m0 (hps a) (hps b) y) m (i : Int)) some (fun y22 => cnd (decide (((hps a).length : Int) < ((hps b).length : Int))) (some (-1)) (some 0)) = some (cmpL (a.drop i) (b.drop i))
 | 0, i, h1, h2, h3 => by omega
 | m + 1, i, h1, h2, h3 => by
  by_cases hi : i < a.length
  ·have hx : a[i]? = some a[i] := zA hi
   have ix : idx (hps a) (i : Int) = some (hp a[i]) := by rw [idx_get, zG, hx]; rfl
   rw [zI hi]
   generalize a[i] = x at hx ix
   by_cases hj : i < b.length
   ·have hy : b[i]? = some b[i] := zA hj
    have iy : idx (hps b) (i : Int) = some (hp b[i]) := by rw [idx_get, zG, hy]; rfl
    rw [zI hj]
    generalize b[i] = y at hy iy
    have ih := f75_iter m0 a b ha m (i + 1) hi hj om
    have hB : f75c71_B1 m0 (hps a) (hps b) (i : Int) = if cfH x y = 0 then some (.nxt ((i + 1 : Nat) : Int)) else some (.ret (cfH x y)) := by
     unfold f75c71_B1
     rw [ix, iy, show decide ((i : Int) < ((hps a).length : Int)) = true by simpa using hi, show decide ((i : Int) ≥ ((hps b).length : Int)) = false by simpa using hj]
     simp only [cnd_true, cnd_false, bnd_some', f71_eq]
     by_cases h : cfH x y = 0
     ·simp [h, w64_nat (show i < 1000000000 by omega)]
     ·rw [show (cfH x y != 0) = true by simpa using h]; simp [h]
    unfold iter cmpL
    rw [hB]
    by_cases h : cfH x y = 0
    ·simp only [h, if_true]; exact ih
    ·simp only [h, if_false]; rfl
   ·have hB : f75c71_B1 m0 (hps a) (hps b) (i : Int) = some (.ret 1) := by
     unfold f75c71_B1
     rw [ix, show decide ((i : Int) < ((hps a).length : Int)) = true by simpa using hi, show decide ((i : Int) ≥ ((hps b).length : Int)) = true by simpa using Nat.le_of_not_lt hj]
     simp only [cnd_true, cnd_false, bnd_some']
    rw [zT (Nat.le_of_not_lt hj)]
    unfold iter cmpL
    rw [hB]; rfl
  ·have hB : f75c71_B1 m0 (hps a) (hps b) (i : Int) = some (.brk (i : Int)) := by
    unfold f75c71_B1
    rw [show decide ((i : Int) < ((hps a).length : Int)) = false by simpa using hi]
    simp only [cnd_false]
   rw [zT (Nat.le_of_not_lt hi)]
   unfold iter
   rw [hB]
   by_cases hj : i < b.length
   ·rw [zI hj]
    simp only [brk_inr, cmpL, List.length_map]
    rw [decide_eq_true om]; rfl
   ·rw [zT (Nat.le_of_not_lt hj)]
    simp only [brk_inr, cmpL, List.length_map]
    rw [decide_eq_false om]; rfl
theorem f74_eq (m : Nat) (a b : List HP) (ha : a.length ≤ 1048576) (hm : a.length < m) : f74 m (hps a) (hps b) = some (cmpL a b) := by
 unfold f74 f75c71
 have := f75_iter m a b ha m 0 om om om
 simp only [List.drop_zero] at this
 show bnd (brk (iter (fun (y : Int) => f75c71_B1 m (hps a) (hps b) y) m ((0 : Nat) : Int)) some _) _ = _
 rw [this]; rfl
open Go.Sort Go.Proofs
section
variable {α : Type} [Inhabited α] {enc : α → Value} {w : World} {blk off : Nat} {dk : Array α}
theorem s1_size (m : Nat) (os : Array Obj) : w.heap.size ≤ (sortWorld enc w blk off m dk os).heap.size := by
 simp [sortWorld, grow, putRow, mapBlock]
theorem s1_old (m : Nat) (os : Array Obj) {b : Nat} (hb : b < w.heap.size) (hne : b ≠ blk) : (sortWorld enc w blk off m dk os).heap[b]? = w.heap[b]? := by
 unfold sortWorld
 rw [heap_grow_old _ _ (by simpa [putRow, mapBlock] using hb)]
 simp only [putRow, mapBlock, heap_ahead, Array.getElem?_modify, if_neg (Ne.symm hne)]
theorem s1_row (m : Nat) (os : Array Obj) {cur : Array Value} {e : TypeId} (hg : w.heap[blk]? = some (.cells cur e (0, 0))) : (sortWorld enc w blk off m dk os).heap[blk]? = some (.cells (putCells enc off dk cur) e (0, 0)) := by
 have hb : blk < w.heap.size := (Array.getElem?_eq_some_iff.1 hg).1
 unfold sortWorld
 rw [heap_grow_old _ _ (by simpa [putRow, mapBlock] using hb)]
 simp only [putRow, mapBlock, heap_ahead, Array.getElem?_modify, if_true, hg, Option.map_some, onCells]
end
theorem sortFn1_sound {DR : Prop} {α : Type} {P : Program} {f g : Nat} {dec : V → Option α} {enc : α → V} {srt : List α → List α} (hI : Is P f) (cf : α → α → Int) (hcmp : CmpOk P g enc cf) (hO : SWO (ltOf cf))
  (henc : ∀ v a, dec v = some a → v = enc a) (hcells : ∀ a, (enc a).scalar = true ∧ (enc a).cells = [enc a] ∧ (enc a).solid = true)
  (hc : ∀ {β : Type} [Inhabited β] (enc' : β → Value) (cf' : β → β → Int) (blk off cap : Nat) (d : Array β) (w : World), OneCell enc' → SWO (ltOf cf') → CmpLays1 P g #[] enc' cf' blk off d.size w → Holds enc' w blk off d → blk < w.heap.size → d.size < 4611686018427387904 →
   Calls P f #[.slice (some ⟨blk, off, none⟩) d.size cap, .func (.func g) #[] #[]] w fun e w' => e = .returned (.tuple #[]) ∧ ∃ d' n os, PermIn 0 d.size d d' ∧ SortedIn (ltOf cf') 0 d.size d' ∧ w' = sortWorld enc' w blk off n d' os)
  (hn : ∀ (p : Option Addr) (cap : Nat) (fv : Value) (w : World), Calls P f #[.slice p 0 cap, fv] w fun e w' => e = .returned (.tuple #[]) ∧ w' = w)
  (hsrt : ∀ l l' : List α, l'.Perm l → l'.Pairwise (fun a b => ltOf cf b a = false) → l' = srt l) : DOk DR P f (sortFnF 1 g dec enc srt) := by
 refine ⟨hI, fun ds h d h' hd S β w vs hrel hi => ?_⟩
 unfold sortFnF at hd
 split at hd
 ·rename_i h0 r len g'
  have h2 : vs.size = 2 := hrel.1
  obtain ⟨v1, v2, rfl⟩ := size_two h2
  have hv := hrel.2 0 v1 _ rfl rfl
  have hf := (hrel.2 1 v2 _ rfl rfl).of_v
  split at hd
  case h_2 => cases hd
  rename_i k' es hes
  split at hd
  case isFalse => cases hd
  rename_i hcond
  obtain ⟨rfl, rfl, rfl, hpos, hbig⟩ := hcond
  obtain ⟨l, hl, he⟩ := zB.1 hd
  obtain ⟨rfl, rfl⟩ := zM he
  have hes' := allM_dec henc hl
  subst hes'
  rw [List.length_map] at hpos hbig
  cases hf
  cases hv with
  | osl _ _ _ b c kk p cap _ hb hlc hp hcap =>
  simp only [Nat.zero_mul] at hp
  subst hp
  have hob := hi.obj r _ b c kk hes hb
  obtain ⟨rfl, _, o3, o4, o5, cur, e, o6, o7, o8⟩ := hob
  have hblt := hi.lt r _ b c 1 hes rfl hb
  rw [List.length_map] at o4
  have hno : ∀ i, ¬ S b i := fun i hs => absurd (hi.own r _ b c 1 i hes rfl hb hs) (Nat.not_lt_zero _)
  let A := { p : α × Value // RelV S w p.2 (enc p.1) }
  have hfit : ∀ i, i < l.length → i < cur.size := by
   intro i hi'
   rw [o7]
   omega
  have hel : ∀ i (hi' : i < l.length), RelV S w (cur[i]!) (enc l[i]) := by
   intro i hi'
   obtain ⟨h1, h2, h3⟩ := hcells l[i]
   have hlt := hfit i hi'
   refine o8 i 0 (enc l[i]) (enc l[i]) _ (by rw [zG, zA hi']; rfl) (by rw [h2]; rfl) ?_
   rw [Nat.mul_one, Nat.add_zero, zD hlt, getElem!_pos cur _ hlt]
  let d : Array A := Array.ofFn (n := l.length) fun i => ⟨(l[i], cur[i.val]!), hel i.val i.isLt⟩
  have hds : d.size = l.length := Array.size_ofFn
  have hdget : ∀ i (hi' : i < l.length), d[i]'(by rw [hds]; exact hi') = ⟨(l[i], cur[i]!), hel i hi'⟩ := fun i hi' => Array.getElem_ofFn _
  haveI : Inhabited A := ⟨⟨(l[0], cur[0]!), hel 0 hpos⟩⟩
  let enc' : A → Value := fun p => p.1.2
  let cf' : A → A → Int := fun p q => cf p.1.1 q.1.1
  have hone : OneCell enc' := by
   rintro ⟨⟨a, v⟩, hr⟩
   exact RelV.oneCell (show RelV S w v (enc a) from hr) (hcells a).1
  have hO' : SWO (ltOf cf') := ⟨fun x => hO.irrefl x.1.1, fun x y z => hO.trans x.1.1 y.1.1 z.1.1, fun x y z => hO.ntrans x.1.1 y.1.1 z.1.1⟩
  have hkW : ∀ m (dk : Array A) os, Keeps S w S (sortWorld enc' w b 0 m dk os) := fun m dk os b' i hs => ⟨hs, look_of_block (s1_old m os (hi.sb b' i hs) fun e => hno i (e ▸ hs))⟩
  have hlays : CmpLays1 P g' #[] enc' cf' b 0 d.size w := by
   intro m os dk hdk x y
   refine (hcmp x.1.1 y.1.1 S (sortWorld enc' w b 0 m dk os) _ ⟨rfl, fun i v dd hv hd => ?_⟩ (fun b' i hs => Nat.lt_of_lt_of_le (hi.sb b' i hs) (s1_size m os)) (hi.gl.mono (hkW m dk os))).mono ?_
   ·match i with
    | 0 => simp at hv hd; subst hv; subst hd; exact .v _ _ (x.2.mono (hkW m dk os))
    | 1 => simp at hv hd; subst hv; subst hd; exact .v _ _ (y.2.mono (hkW m dk os))
    | i + 2 => simp at hv
   ·rintro e' w' ⟨rfl, S', hE⟩
    exact ⟨rfl, grown_of hE.size (fun b' hb' => hE.rest b' hb' fun r c k hr => by simp at hr) hE.os hE.tape hE.output (hE.drawn trivial)⟩
  have hH : Holds enc' w b 0 d := by
   intro q hq
   rw [hds] at hq
   have hqc := hfit q hq
   refine ⟨?_, by simp [World.frozen?, o6]⟩
   rw [getElem!_pos d _ (by rw [hds]; exact hq), hdget _ hq, cell_own o6, Nat.zero_add, zD hqc]
   show some cur[q] = some cur[q]!
   rw [getElem!_pos cur q hqc]
  have hcall := hc enc' cf' b 0 cap d w hone hO' hlays hH hblt (by rw [hds]; exact hbig)
  rw [hds] at hcall
  have hargs : (#[Value.slice (some ⟨b, 0, none⟩) (List.map enc l).length cap, .func (.func g') #[] #[]] : Array Value) = #[.slice (some ⟨b, 0, none⟩) l.length cap, .func (.func g') #[] #[]] := by rw [List.length_map]
  rw [hargs]
  refine hcall.mono ?_
  rintro ex w' ⟨rfl, d', n, os, ⟨hp1, _, hp3⟩, hso, hw⟩
  rw [hds] at hp1
  have hperm : d'.toList.Perm d.toList := by
   have e1 : d'.extract 0 l.length = d' := by rw [← hp1]; simp
   have e2 : d.extract 0 l.length = d := by rw [← hds]; simp
   rw [e1, e2] at hp3
   exact hp3
  have hdl : d.toList.map (fun p => p.1.1) = l := by
   refine List.ext_getElem? fun i => ?_
   rw [zG]
   by_cases hi' : i < l.length
   ·rw [zA (by simpa [hds] using hi'), zA hi', Array.getElem_toList, hdget i hi']; rfl
   ·rw [zS (by simp [hds]; omega), zS om]; rfl
  have hsorted : (d'.toList.map fun p => p.1.1) = srt l := by
   refine hsrt l _ (by have := hperm.map (fun p : A => p.1.1); rwa [hdl] at this) ?_
   rw [List.pairwise_map, List.pairwise_iff_getElem]
   intro i j hi' hj hij
   have hj' : j < l.length := by rw [← hp1]; simpa using hj
   have := hso i j (Nat.zero_le _) hij hj'
   rw [getElem!_pos d' j om, getElem!_pos d' i om] at this
   simpa [cf', ltOf] using this
  have hcurs : cur.size = c * 1 := o7
  have hrow := s1_row (enc := enc') (off := 0) (dk := d') n os o6
  rw [← hw] at hrow
  obtain ⟨e1, e2⟩ := hi.rowTurn (DR := DR) hes hb (w' := w') (es' := (srt l).map enc) (by rw [hw]; exact s1_size n os) (fun b' hb' hne => by rw [hw]; exact s1_old n os hb' hne)
   (by rw [hw]; rfl) (by rw [hw]; rfl) (by rw [hw]; rfl) (by rw [hw]; exact Nat.le_add_right _ _)
   (fun hK => by
    refine ⟨rfl, Nat.one_pos, o3, by rw [← hsorted]; simp; omega, fun i x hx => ?_, _, e, hrow, by simp [putCells, hcurs], fun i j x y v hx hy hv => ?_⟩
    ·rw [zG] at hx
     obtain ⟨a, _, rfl⟩ := zB.1 hx
     obtain ⟨_, h2, h3⟩ := hcells a
     exact ⟨h3, by rw [h2]; rfl⟩
    ·rw [← hsorted, List.map_map, zG] at hx
     obtain ⟨p, hp, rfl⟩ := zB.1 hx
     have hid : i < d'.size := by have := yE hp; simpa using this
     have hid' : i < l.length := by rw [← hp1]; exact hid
     have hpd : d'[i] = p := by
      rw [zA (by simpa using hid)] at hp
      simpa using hp
     obtain ⟨_, h2, _⟩ := hcells p.1.1
     have hy' : (enc p.1.1).cells[j]? = some y := hy
     rw [h2] at hy'
     have hj : j = 0 := by have := yE hy'; simpa using this
     subst hj
     have hy'' : enc p.1.1 = y := by simpa using hy'
     have hlt := hfit i hid'
     simp only [Nat.mul_one, Nat.add_zero, putCells, Array.getElem?_mapIdx, zD hlt, Option.map_some, Option.some.injEq] at hv
     rw [if_pos ⟨Nat.zero_le _, om⟩, Nat.sub_zero, getElem!_pos d' i hid, hpd] at hv
     rw [← hv, ← hy'']
     exact p.2.mono hK)
  exact ⟨_, S, β, rfl, e1, e2, unit_rel _ _ _⟩
 ·rename_i h0 g'
  have h2 : vs.size = 2 := hrel.1
  obtain ⟨v1, v2, rfl⟩ := size_two h2
  have hv := (hrel.2 0 v1 _ rfl rfl).of_v
  split at hd
  case isFalse => cases hd
  cases hd
  cases hv with
  | slnil _ _ =>
   refine (hn none 0 v2 w).mono ?_
   rintro e w' ⟨rfl, rfl⟩
   exact ⟨_, S, β, rfl, Ext.refl _ _ _, hi, unit_rel _ _ _⟩
  | slemp _ a cap h hf hm => exact absurd rfl h
  | sl _ b off cap k n _ vals hn' h => exact absurd rfl h
 ·cases hd
theorem lays73 : SlLaysF.n6 Try.prog Try.laysS73_ren := { Try.laysS73 with a24 := Try.isAgg80, z24 := Try.sizeOf80 }
abbrev HL : Type := { l : List HP // l.length ≤ 1048576 }
abbrev encL (l : HL) : V := vP e111 (hps l.val)
def cfL (x y : HL) : Int := cmpL x.val y.val
theorem toHL : TO cfL := ⟨fun x y => (cmpL_eq _ _).trans ⟨fun h => Subtype.ext h, fun h => congrArg _ h⟩, fun x y => cmpL_sw _ _, fun x y z => cmpL_tr _ _ _⟩
theorem cmp74 : CmpOk Try.prog 74 encL cfL := by
 intro x y S w us hrel hs hg
 have hx := x.property
 obtain ⟨d, h', h1, h2⟩ := ok74 (x.val.length + 1) (hps x.val) (hps y.val) (cfL x y) (f74_eq _ x.val y.val hx om) (x.val.length + 4) om
 refine ((pureCalls (good0 (DR := True)) (xs := [encL x, encL y]) h1 h2).2 S w us hrel hs hg).mono ?_
 rintro e w' ⟨v, S', rfl, hE, _, hR⟩
 cases hR
 exact ⟨rfl, S', hE⟩
def decL : V → Option HL
 | .sl .plain vs => match allM decH vs with
  | some l => if h : l.length ≤ 1048576 then some ⟨l, h⟩ else none
  | none => none
 | _ => none
theorem decL_spec {v : V} {a : HL} (h : decL v = some a) : v = encL a := by
 unfold decL at h
 split at h
 ·split at h
  ·rename_i l hl
   split at h
   ·cases h
    have := allM_dec (fun _ _ h => decH_spec h) hl
    subst this
    show V.sl .plain (l.map encH) = .sl .plain ((l.map hp).map e111)
    rw [List.map_map]; rfl
   ·cases h
  ·cases h
 ·cases h
theorem decL_e (a : HL) : decL (encL a) = some a := by
 have h : allM decH ((hps a.val).map e111) = some a.val := by
  have := allM_decH a.val
  rwa [show a.val.map encH = (hps a.val).map e111 by rw [List.map_map]; rfl] at this
 show (match allM decH ((hps a.val).map e111) with
  | some l => if h : l.length ≤ 1048576 then some ⟨l, h⟩ else none
  | none => none) = some a
 rw [h]
 exact dif_pos a.property
theorem allM_decL (l : List HL) : allM decL (l.map encL) = some l := by
 have := allM_map (f := decL) (k := encL) (r := fun s => s) l fun s _ => decL_e s
 rw [List.map_id'] at this
 exact this
theorem is73 : Is Try.prog 73 := ⟨Try.f73, Try.func73, kr, kr⟩
def sort73F : List D → List AObj → Option (D × List AObj) := sortFnF 1 74 decL encL (srtC cfL)
theorem sort73 : DOk False Try.prog 73 sort73F :=
 sortFn1_sound is73 cfL cmp74 toHL.swo (fun _ _ h => decL_spec h) (fun a => ⟨rfl, rfl, kr⟩)
  (fun enc' cf' blk off cap d w h1 hO hc hH hb hs => Any.slices_SortFunc lays73 enc' h1 cf' hO 74 #[] blk off cap d w (enters_of Try.func74 kr rfl) hc hH hb hs)
  (fun p cap fv w => AnyF.slices_SortFunc_none Try.laysS73 p cap fv w) (srtC_is toHL)
theorem srtL_length (l : List HL) : (srtC cfL l).length = l.length := (srtC_perm l).length_eq
variable {h : List AObj} {q : Nat}
theorem srt70 {l : List HP} (hq : h[q]? = some (oH (hps l))) (hn : l ≠ []) (hl : l.length < 4611686018427387904) :
  CallT False Try.prog 70 [.osl q 0 l.length false, .v (.fn 71)] h fun d h' => d = U ∧ h' = h.set q (oH (hps (srtC cfH l))) := by
 refine dcall sort70 ?_
 have e1 : h[q]? = some (.row 2 (l.map encH)) := by rw [hq]; simp [oH, hps, Function.comp_def]
 simp only [sort70F, sortFnF, e1]
 rw [if_pos ⟨trivial, trivial, by simp, List.length_pos_iff.2 hn, hl⟩, allM_decH, Option.map_some]
 simp [oH, hps, Function.comp_def]
theorem srt70n : CallT False Try.prog 70 [.v nilS, .v (.fn 71)] h fun d h' => d = U ∧ h' = h := dcall sort70 rfl
abbrev oL (l : List (List S111)) : AObj := .row 1 (l.map (eL e111))
abbrev hls (l : List HL) : List (List S111) := l.map fun x => hps x.val
theorem hls_enc (l : List HL) : (hls l).map (eL e111) = l.map encL := by
 rw [hls, List.map_map]; rfl
theorem srt73 {l : List HL} (hq : h[q]? = some (oL (hls l))) (hn : l ≠ []) (hl : l.length < 4611686018427387904) :
  CallT False Try.prog 73 [.osl q 0 l.length false, .v (.fn 74)] h fun d h' => d = U ∧ h' = h.set q (oL (hls (srtC cfL l))) := by
 refine dcall sort73 ?_
 have e1 : h[q]? = some (.row 1 (l.map encL)) := by rw [hq, oL, hls_enc]
 simp only [sort73F, sortFnF, e1]
 rw [if_pos ⟨trivial, trivial, by simp, List.length_pos_iff.2 hn, hl⟩, allM_decL, Option.map_some, oL, hls_enc]
theorem srt73n : CallT False Try.prog 73 [.v nilS, .v (.fn 74)] h fun d h' => d = U ∧ h' = h := dcall sort73 rfl
end Go.Abs.Ts
