import Derived.Test.YtgbhimkbfaebeaaGreatDoorXN
import Derived.Test.YtgbhimkbfaebeaaGreatDoorAbsN
import Derived.Test.YtgbhimkbfaebeaaGreatDoorAbsU
import Derived.Test.YtgbhimkbfaebeaaGreatDoorAbsM
import Derived.Lib.AtoiErrMem
namespace Go.Abs
open Go.Proofs Go.RowKit
set_option linter.unusedVariables false
set_option linter.unusedSimpArgs false
set_option linter.unnecessarySimpa false
set_option maxRecDepth 100000
theorem rel_two {S : Nat → Nat → Prop} {w : World} {a b : Value} {x y : V} (h1 : RelV S w a x) (h2 : RelV S w b y) : RelV S w (.tuple #[a, b]) (.tuple [x, y]) :=
 .tuple _ _ rfl fun i v z hv hz => by
  match i with
  | 0 => cases hv; cases hz; exact h1
  | 1 => cases hv; cases hz; exact h2
  | i + 2 => cases hz
theorem rel_tri {S : Nat → Nat → Prop} {w : World} {a b c : Value} {x y z : V} (h1 : RelV S w a x) (h2 : RelV S w b y) (h3 : RelV S w c z) : RelV S w (.tuple #[a, b, c]) (.tuple [x, y, z]) :=
 .tuple _ _ rfl fun i v t hv ht => by
  match i with
  | 0 => cases hv; cases ht; exact h1
  | 1 => cases hv; cases ht; exact h2
  | 2 => cases hv; cases ht; exact h3
  | i + 3 => cases ht
theorem two_args {S : Nat → Nat → Prop} {w : World} {us : Array Value} {x y : V} (h : RelL S [] w us ([x, y].map .v)) : ∃ a b, us = #[a, b] ∧ RelV S w a x ∧ RelV S w b y := by
 obtain ⟨h1, h2⟩ := h
 obtain ⟨l⟩ := us
 match l, h1 with
 | [a, b], _ => exact ⟨a, b, rfl, (h2 0 a (.v x) rfl rfl).of_v, (h2 1 b (.v y) rfl rfl).of_v⟩
theorem str_two {S : Nat → Nat → Prop} {w : World} {us : Array Value} {s t : ByteArray} (h : RelL S [] w us ([V.str s, .str t].map .v)) : us = #[.string s, .string t] := by
 obtain ⟨a, b, rfl, ha, hb⟩ := two_args h
 cases ha; cases hb; rfl
theorem int_arg {S : Nat → Nat → Prop} {w : World} {us : Array Value} {k : IntKind} {n : Int} (h : RelL S [] w us ([V.int k n].map .v)) : us = #[.int k n] := by
 obtain ⟨h1, h2⟩ := h
 obtain ⟨l⟩ := us
 match l, h1 with
 | [a], _ =>
  have := (h2 0 a (.v (.int k n)) rfl rfl).of_v
  cases this; rfl
theorem below_draws (w : World) (n : Nat) : Below w.heap.size w (w.drewN n) := ⟨rfl, rfl, rfl, Nat.le_refl _, fun _ _ => rfl⟩
theorem tabIs_of_glob {S : Nat → Nat → Prop} {w : World} (h : Glob S w) : Lib.TabIs Tryz.prog w "internal/strconv.uint64pow10" .u64 Lib.pow10Tab := by
 have hg : Tryz.prog.globalNamed "internal/strconv.uint64pow10" = some 1 := by kernel_rfl
 obtain ⟨_, h20⟩ := h.2 1 20 (fun v => v = none) List.mem_cons_self
 have hcell : ∀ j : Nat, j < 20 → w.cell? ⟨1, j, none⟩ = some (.int .u64 ((10 ^ j : Nat) : Int)) := fun j hj => by
  have hp : powTab[j]? = some (.int .u64 ((10 ^ j : Nat) : Int)) := by
   unfold powTab Lib.pow10Tab
   rw [List.getElem?_map, List.getElem?_map, List.getElem?_range hj]; rfl
  obtain ⟨_, v, h2, h3⟩ := h.1 1 powTab rfl j _ hp
  cases h3
  exact h2
 have h0 := hcell 0 (by omega)
 obtain ⟨cur, e, fz, ho⟩ : ∃ cur e fz, w.heap[1]? = some (.cells cur e fz) := by
  unfold World.cell? at h0
  cases hh : w.heap[1]? with
  | none => rw [hh] at h0; cases h0
  | some o =>
   rw [hh] at h0
   cases o with
   | cells cur e fz => exact ⟨cur, e, fz, rfl⟩
   | _ => cases h0
 have hc : ∀ j : Nat, w.cell? ⟨1, j, none⟩ = cur[j]? := fun j => cell_of_row w 1 j cur e fz ho
 unfold Lib.TabIs World.var?
 rw [hg]
 simp only [Option.bind_some, ho]
 congr 1
 have hsz : cur.size = 20 := by
  rcases Nat.lt_or_ge cur.size 20 with g | g
  ·have := hcell cur.size g
   rw [hc, Array.getElem?_eq_none (Nat.le_refl _)] at this
   cases this
  ·rcases Nat.lt_or_ge 20 cur.size with g2 | g2
   ·rw [hc, Array.getElem?_eq_getElem g2] at h20
    cases h20
   ·omega
 apply Array.ext_getElem?
 intro j
 rcases Nat.lt_or_ge j 20 with g | g
 ·rw [← hc, hcell j g]
  unfold Lib.pow10Tab
  rw [List.getElem?_toArray, List.getElem?_map, List.getElem?_map, List.getElem?_range g]; rfl
 ·rw [Array.getElem?_eq_none (by omega), Array.getElem?_eq_none]
  simp [Lib.pow10Tab]; omega
def cutPre (s p : ByteArray) : ByteArray × Bool := (⟨(Lib.trimPrefix s.data.toList p.data.toList).toArray⟩, Lib.hasPrefix s.data.toList p.data.toList)
def cutpF : List V → Option V
 | [.str s, .str p] => some (.tuple [.str (cutPre s p).1, .bool (cutPre s p).2])
 | _ => none
theorem xis29 : Is Tryz.prog 29 := ⟨Tryz.f29, Tryz.func29, by kernel_rfl, by kernel_rfl⟩
theorem xo29 : OraOk False Tryz.prog 29 cutpF := by
 refine ⟨xis29, fun vs r hF S w us hrel hs hg => ?_⟩
 unfold cutpF at hF
 split at hF
 case h_2 => cases hF
 rename_i s p
 cases hF
 rw [str_two hrel]
 refine (Tryz.strings_CutPrefix s p w).mono ?_
 rintro e w' ⟨rfl, rfl⟩
 exact ⟨_, S, rfl, Ext.refl _ _ _, hinv_nil hs hg, rel_two (.str _) (.bool _)⟩
def cutS3 (s p : ByteArray) : ByteArray × ByteArray × Bool := (⟨(Lib.cut s.data.toList p.data.toList).1.toArray⟩, ⟨(Lib.cut s.data.toList p.data.toList).2.1.toArray⟩, (Lib.cut s.data.toList p.data.toList).2.2)
def cutF3 : List V → Option V
 | [.str s, .str p] => if s.size < 4294967281 then some (.tuple [.str (cutS3 s p).1, .str (cutS3 s p).2.1, .bool (cutS3 s p).2.2]) else none
 | _ => none
theorem xis44 : Is Tryz.prog 44 := ⟨Tryz.f44, Tryz.func44, by kernel_rfl, by kernel_rfl⟩
theorem xo44 : OraOk False Tryz.prog 44 cutF3 := by
 refine ⟨xis44, fun vs r hF S w us hrel hs hg => ?_⟩
 unfold cutF3 at hF
 split at hF
 case h_2 => cases hF
 rename_i s p
 split at hF
 case isFalse => cases hF
 rename_i hlen
 cases hF
 rw [str_two hrel]
 obtain ⟨_, m, hm⟩ := hg.2 0 0 _ List.mem_cons_self
 refine (Tryz.strings_Cut s p m w hlen hm).mono ?_
 rintro e w' ⟨rfl, n, rfl⟩
 obtain ⟨e1, e2⟩ := below_ext (DR := False) (fun h => h) (below_draws w n) hs hg
 exact ⟨_, S, rfl, e1, e2, rel_tri (.str _) (.str _) (.bool _)⟩
def splitS (s p : ByteArray) : List ByteArray := Lib.splitB p 0 (Lib.countB s p) s
def splitF : List V → Option V
 | [.str s, .str p] => if s.size < 4294967281 ∧ 1 ≤ p.size ∧ (splitS s p).length = Lib.countB s p + 1 ∧ Lib.countB s p + 1 ≤ maxLen then some (.sl .plain ((splitS s p).map .str)) else none
 | _ => none
theorem xis28 : Is Tryz.prog 28 := ⟨Tryz.f28, Tryz.func28, by kernel_rfl, by kernel_rfl⟩
theorem xo28 : OraOk False Tryz.prog 28 splitF := by
 refine ⟨xis28, fun vs r hF S w us hrel hs hg => ?_⟩
 unfold splitF at hF
 split at hF
 case h_2 => cases hF
 rename_i s p
 split at hF
 case isFalse => cases hF
 rename_i hc
 obtain ⟨hlen, h1, hn, hmax⟩ := hc
 cases hF
 rw [str_two hrel]
 obtain ⟨_, m, hm⟩ := hg.2 0 0 _ List.mem_cons_self
 refine (Tryz.strings_Split s p m w hlen hm h1).mono ?_
 rintro e w' ⟨rfl, rfl⟩
 have hi : HInv S [] w [] := hinv_nil hs hg
 obtain ⟨e1, e2⟩ := pure_alloc (DR := False) hi (.cells ((splitS s p).map Value.string).toArray 9)
 refine ⟨_, _, rfl, e1, e2, ?_⟩
 have ho := heap_alloc_new w (.cells ((splitS s p).map Value.string).toArray 9)
 have hcell : ∀ j : Nat, (w.alloc (.cells ((splitS s p).map Value.string).toArray 9)).cell? ⟨w.heap.size, j, none⟩ = ((splitS s p).map Value.string)[j]? := fun j => by
  rw [cell_own ho, List.getElem?_toArray]
 refine .sl .plain w.heap.size 0 _ 1 _ _ (fun q => (((splitS s p).map Value.string)[q]?).getD undef) (by rw [List.length_map]; exact hn.symm) (by decide) (fun h => by cases h) (Nat.le_refl _) hmax (fun i x hx => ?_) (fun i j hi hj => ?_) (fun i j x c hx hc => ?_)
 ·rw [List.getElem?_map] at hx
  obtain ⟨t, _, rfl⟩ := Option.map_eq_some_iff.1 hx
  exact ⟨rfl, rfl⟩
 ·have hj0 : j = 0 := by omega
  subst hj0
  refine ⟨.inr rfl, ?_⟩
  show (w.alloc (.cells ((splitS s p).map Value.string).toArray 9)).cell? ⟨w.heap.size, 0 + (i * 1 + 0), none⟩ = _
  have hlt : i < ((splitS s p).map Value.string).length := by rw [List.length_map]; omega
  rw [hcell, show 0 + (i * 1 + 0) = i by omega, show i * 1 + 0 = i by omega, List.getElem?_eq_getElem hlt]; rfl
 ·rw [List.getElem?_map] at hx
  obtain ⟨t, ht, rfl⟩ := Option.map_eq_some_iff.1 hx
  cases j with
  | zero =>
   cases hc
   simp only [Nat.mul_one, Nat.add_zero, List.getElem?_map, ht, Option.map_some, Option.getD_some]
   exact .str _
  | succ j => simp [V.cells] at hc
def joinS (l : List ByteArray) (p : ByteArray) : ByteArray := ⟨(Lib.join (l.map (·.data.toList)) p.data.toList).toArray⟩
def strsV : List V → Option (List ByteArray)
 | [] => some []
 | .str s :: r => (strsV r).map (s :: ·)
 | _ => none
theorem strsV_map (l : List ByteArray) : strsV (l.map .str) = some l := by
 induction l with
 | nil => rfl
 | cons x r ih => simp only [List.map_cons, strsV, ih, Option.map_some]
theorem strsV_spec : ∀ {vs : List V} {l : List ByteArray}, strsV vs = some l → vs = l.map .str
 | [], l, h => by cases h; rfl
 | .str s :: r, l, h => by
  obtain ⟨t, ht, rfl⟩ := Option.map_eq_some_iff.1 h
  rw [strsV_spec ht]; rfl
def joinF : List V → Option V
 | [.sl fl es, .str p] => match strsV es with
  | some l => if l.length ≤ 140737488355328 ∧ (Lib.join (l.map (·.data.toList)) p.data.toList).length ≤ 140737488355328 then some (.str (joinS l p)) else none
  | none => none
 | _ => none
theorem xis23 : Is Tryz.prog 23 := ⟨Tryz.f23, Tryz.func23, by kernel_rfl, by kernel_rfl⟩
theorem xo23 : OraOk False Tryz.prog 23 joinF := by
 refine ⟨xis23, fun vs r hF S w us hrel hs hg => ?_⟩
 unfold joinF at hF
 split at hF
 case h_2 => cases hF
 rename_i fl es p
 split at hF
 case h_2 => cases hF
 rename_i l hl
 split at hF
 case isFalse => cases hF
 rename_i hc
 cases hF
 have hes := strsV_spec hl
 obtain ⟨a, b, rfl, ha, hb⟩ := two_args hrel
 cases hb
 have none_case : ∀ (a : Option Addr) (c : Nat), l = [] → Calls Tryz.prog 23 #[.slice a 0 c, .string p] w fun e w' => ∃ v S', e = .returned v ∧ Ext False S [] w S' [] w' ∧ HInv S' [] w' [] ∧ RelV S' w' v (.str (joinS l p)) := fun a c h0 => by
  subst h0
  refine (Tryz.strings_Join_none a c p w).mono ?_
  rintro e w' ⟨rfl, rfl⟩
  exact ⟨_, S, rfl, Ext.refl _ _ _, hinv_nil hs hg, .str _⟩
 cases ha with
 | slnil fl h =>
  have h0 : l = [] := by cases l with | nil => rfl | cons => cases hes
  exact none_case none 0 h0
 | slemp fl a cap h hf hm =>
  have h0 : l = [] := by cases l with | nil => rfl | cons => cases hes
  exact none_case (some a) cap h0
 | sl fl b off cap k n es vals hn hnil hf hcap hm hk hs' hr =>
  have hnl : n = l.length := by rw [hn, hes, List.length_map]
  rcases Nat.eq_zero_or_pos n with h0 | h0
  ·have hl0 : l = [] := List.eq_nil_of_length_eq_zero (by omega)
   rw [h0]
   exact none_case _ _ hl0
  ·have hes0 := hes
   subst hnl
   have hget : ∀ (j : Nat) x, l[j]? = some x → es[j]? = some (.str x) := fun j x hx => by rw [hes0, List.getElem?_map, hx]; rfl
   have hk1 : k = 1 := by
    have hx := List.getElem?_eq_getElem (l := l) h0
    have := (hk 0 _ (hget 0 _ hx)).2
    exact this.symm
   subst hk1
   have hcells : ∀ (j : Nat) x, l[j]? = some x → w.cell? ⟨b, off + j, none⟩ = some (.string x) := fun j x hx => by
    have hj := lt_of_getElem? hx
    have h2 := (hs' j 0 hj (by omega)).2
    have h3 := hr j 0 (.str x) (.str x) (hget j x hx) rfl
    rw [Nat.mul_one, Nat.add_zero] at h2 h3
    rw [h2]
    generalize vals j = u at h3
    cases h3
    rfl
   have hbk : b < w.heap.size := hs b _ (hs' 0 0 h0 (by omega)).1
   refine (Tryz.strings_Join b off cap l p w hcells hbk hc.1 hcap hc.2).mono ?_
   rintro e w' ⟨rfl, hb⟩
   obtain ⟨e1, e2⟩ := below_ext (DR := False) (fun h => h) hb hs hg
   exact ⟨_, S, rfl, e1, e2, .str _⟩
def numS (s : ByteArray) : Int × Bool := match Lib.atoiAll s.data.toList with
 | .ok v => (v, Lib.itoa v == s.toList)
 | .range => (Lib.atoiSat s.data.toList, false)
 | _ => (0, false)
def numF : List V → Option V
 | [.str s] => if s.size ≤ 281474976710656 ∧ -9223372036854775808 ≤ (numS s).1 ∧ (numS s).1 ≤ 9223372036854775807 then some (.tuple [.int .i64 (numS s).1, .bool (numS s).2]) else none
 | _ => none
theorem xis45 : Is Tryz.prog 45 := ⟨Tryz.f45, Tryz.func45, by kernel_rfl, by kernel_rfl⟩
theorem xo45 : OraOk False Tryz.prog 45 numF := by
 refine ⟨xis45, fun vs r hF S w us hrel hs hg => ?_⟩
 unfold numF at hF
 split at hF
 case h_2 => cases hF
 rename_i s
 split at hF
 case isFalse => cases hF
 rename_i hc
 cases hF
 rw [str_arg hrel]
 obtain ⟨h1, h2, h3⟩ := hc
 have fin : ∀ (v : Int) (b : Bool), numS s = (v, b) → Calls Tryz.prog 45 #[.string s] w (fun e w' => e = .returned (.tuple #[.int .i64 v, .bool b]) ∧ Below w.heap.size w w') →
   Calls Tryz.prog 45 #[.string s] w fun e w' => ∃ v S', e = .returned v ∧ Ext False S [] w S' [] w' ∧ HInv S' [] w' [] ∧ RelV S' w' v (.tuple [.int .i64 (numS s).1, .bool (numS s).2]) := fun v b hn hcall => by
  refine hcall.mono ?_
  rintro e w' ⟨rfl, hb⟩
  obtain ⟨e1, e2⟩ := below_ext (DR := False) (fun h => h) hb hs hg
  rw [hn]
  exact ⟨_, S, rfl, e1, e2, rel_two (.int _ _) (.bool _)⟩
 cases hq : Lib.atoiAll s.data.toList with
 | ok v =>
  have hn : numS s = (v, Lib.itoa v == s.toList) := by unfold numS; rw [hq]
  rw [hn] at h2 h3
  exact fin _ _ hn (number_ok s h1 v hq h2 h3 w (tabIs_of_glob hg))
 | range =>
  have hn : numS s = (Lib.atoiSat s.data.toList, false) := by unfold numS; rw [hq]
  obtain ⟨_, te, pe, hm⟩ := hg.2 5 0 _ List.mem_cons_self
  exact fin _ _ hn (number_bad s h1 _ 126 w ((Tryz.strconv_Atoi_range s h1 hq _ w hm (.inr ⟨te, pe, rfl⟩)).mono fun e w' ⟨N, h4, _, _, h5⟩ => ⟨N, h4, h5⟩))
 | _ =>
  have hn : numS s = (0, false) := by unfold numS; rw [hq]
  obtain ⟨_, te, pe, hm⟩ := hg.2 4 0 _ List.mem_cons_self
  exact fin _ _ hn (number_bad s h1 0 126 w ((Tryz.strconv_Atoi_syntax s h1 hq _ w hm (.inr ⟨te, pe, rfl⟩)).mono fun e w' ⟨N, h4, _, _, h5⟩ => ⟨N, h4, h5⟩))
def smallF : List V → Option V
 | [.int .i64 i] => if 0 ≤ i ∧ i < 100 then some (.str ⟨(Lib.decDigits i.toNat).toArray⟩) else none
 | _ => none
theorem xis78 : Is Tryz.prog 78 := ⟨Tryz.f78, Tryz.func78, by kernel_rfl, by kernel_rfl⟩
theorem xo78 : OraOk False Tryz.prog 78 smallF := by
 refine ⟨xis78, fun vs r hF S w us hrel hs hg => ?_⟩
 unfold smallF at hF
 split at hF
 case h_2 => cases hF
 rename_i i
 split at hF
 case isFalse => cases hF
 rename_i hc
 cases hF
 rw [int_arg hrel]
 have hi : i = ((i.toNat : Nat) : Int) := by omega
 have := Tryz.internal_strconv_small i.toNat (by omega) w
 rw [← hi] at this
 refine this.mono ?_
 rintro e w' ⟨rfl, rfl⟩
 exact ⟨_, S, rfl, Ext.refl _ _ _, hinv_nil hs hg, .str _⟩
def nDigF : List V → Option V
 | [.int .u64 u] => if 1 ≤ u ∧ u < 18446744073709551616 then some (.int .i64 (Lib.nDigits u.toNat)) else none
 | _ => none
theorem xis79 : Is Tryz.prog 79 := ⟨Tryz.f79, Tryz.func79, by kernel_rfl, by kernel_rfl⟩
theorem xo79 : OraOk False Tryz.prog 79 nDigF := by
 refine ⟨xis79, fun vs r hF S w us hrel hs hg => ?_⟩
 unfold nDigF at hF
 split at hF
 case h_2 => cases hF
 rename_i u
 split at hF
 case isFalse => cases hF
 rename_i hc
 cases hF
 rw [int_arg hrel]
 have hi : u = ((u.toNat : Nat) : Int) := by omega
 have := Tryz.internal_strconv_numDigits u.toNat (by omega) (by omega) w (tabIs_of_glob hg)
 rw [← hi] at this
 refine this.mono ?_
 rintro e w' ⟨rfl, rfl⟩
 exact ⟨_, S, rfl, Ext.refl _ _ _, hinv_nil hs hg, .int _ _⟩
def cutQ (s p : ByteArray) : Option (ByteArray × ByteArray × Bool) := if s.size < 4294967281 then some (cutS3 s p) else none
theorem cutF3_ok {s p : ByteArray} {o : ByteArray × ByteArray × Bool} (h : cutQ s p = some o) : cutF3 [.str s, .str p] = some (.tuple [.str o.1, .str o.2.1, .bool o.2.2]) := by
 unfold cutQ at h
 unfold cutF3
 split at h
 ·rename_i hc
  cases h
  exact if_pos hc
 ·cases h
def splitQ (s p : ByteArray) : Option (List ByteArray) := if s.size < 4294967281 ∧ 1 ≤ p.size ∧ (splitS s p).length = Lib.countB s p + 1 ∧ Lib.countB s p + 1 ≤ maxLen then some (splitS s p) else none
theorem splitF_ok {s p : ByteArray} {o : List ByteArray} (h : splitQ s p = some o) : splitF [.str s, .str p] = some (.sl .plain (o.map .str)) := by
 unfold splitQ at h
 unfold splitF
 split at h
 ·rename_i hc
  cases h
  exact if_pos hc
 ·cases h
def joinQ (l : List ByteArray) (p : ByteArray) : Option ByteArray := if l.length ≤ 140737488355328 ∧ (Lib.join (l.map (·.data.toList)) p.data.toList).length ≤ 140737488355328 then some (joinS l p) else none
theorem joinF_ok {l : List ByteArray} {p o : ByteArray} (h : joinQ l p = some o) : joinF [.sl .plain (l.map .str), .str p] = some (.str o) := by
 unfold joinQ at h
 unfold joinF
 simp only [strsV_map]
 split at h
 ·rename_i hc
  cases h
  exact if_pos hc
 ·cases h
def numQ (s : ByteArray) : Option (Int × Bool) := if s.size ≤ 281474976710656 ∧ -9223372036854775808 ≤ (numS s).1 ∧ (numS s).1 ≤ 9223372036854775807 then some (numS s) else none
theorem numF_ok {s : ByteArray} {o : Int × Bool} (h : numQ s = some o) : numF [.str s] = some (.tuple [.int .i64 o.1, .bool o.2]) := by
 unfold numQ at h
 unfold numF
 split at h
 ·rename_i hc
  cases h
  exact if_pos hc
 ·cases h
end Go.Abs
