import Derived.Test.YtkmmaelmdioleaaGreatDoorUM
import Derived.Test.YtkmmaelmdioleaaGreatDoorUC1
import Derived.Test.YtkmmaelmdioleaaGreatDoorAbsH
namespace Go.Abs.Uv
open Go.Sort Go.Proofs
set_option linter.unusedVariables false
set_option linter.unusedSimpArgs false
set_option linter.unnecessarySimpa false
set_option maxRecDepth 100000
def impL : List Nat := [162, 194, 132, 114, 19, 42, 43, 31, 62, 65, 104, 101, 113, 156, 157, 158, 191, 192, 193, 247, 248, 249, 250, 58, 39, 84, 102, 136, 139, 74, 98, 131, 154, 176, 177, 60, 85, 105, 138, 142, 118, 119, 120, 121, 122, 123, 124, 125, 146, 147, 148, 149, 150, 151, 152, 153, 168, 169, 170, 171, 172, 173, 174, 175, 183, 184, 185, 186, 187, 188, 189, 190, 195, 196, 197, 198, 163, 166, 167, 180, 181, 182, 215, 216, 217, 218, 219, 220, 221, 222, 223, 224, 225, 226, 227, 228]
def rowL : List Nat := [162, 194, 160, 62, 114, 155, 111, 71, 248, 132, 89, 27, 48, 24, 28, 65, 104, 113, 249]
def EV (f : Nat) : Env := { T := TW, pureF := fun g => !impL.contains g || (f == 71 && g == 114), keep := fun _ => ⟨fun _ => [], fun _ => [], fun _ => []⟩, acc := fun _ => [], rowF := fun _ => false, rowM := rowL.contains f, bldTy := fun t => (f == 89 && t == 97) || (f == 132 && t == 240) || (f == 62 && t == 150) || (f == 155 && t == 97) || (f == 248 && t == 216), ora := fun _ => none, oraD := fun _ => none, dynP := f != 159 }
def EF : Env := { EV 0 with ora := fun f => if f = 32 then some ixbyteF else none, oraD := fun f => if f = 64 then some Us.F64 else if f = 114 then some clnR else if f = 41 then some clnL else none }
noncomputable def useB (f : Nat) : Bool := decide (f < 260) && (f != 114 && (f != 41 && (f != 64 && (f != 32 && (match Tryz.prog.funcs[f]? with
 | some fn => fn.body.isSome && !(fn.name == "runtime.NumGoroutine")
 | none => false)))))
theorem useB_is : ∀ f, useB f = true → Is Tryz.prog f := by
 intro f h
 unfold useB at h
 simp only [Bool.and_eq_true] at h
 obtain ⟨_, _, _, _, _, h⟩ := h
 split at h
 ·rename_i fn hfn
  rw [Bool.and_eq_true] at h
  exact ⟨fn, hfn, h.1, by simpa using h.2⟩
 ·cases h
theorem is32 : Is Tryz.prog 32 := ⟨Tryz.f32, Tryz.func32, by kernel_rfl, by kernel_rfl⟩
theorem ora32 {DR : Prop} : OraOk DR Tryz.prog 32 ixbyteF := ixbyte_sound is32 fun s c w => Tryz.strings_IndexByte s c w
theorem goodF : Good False Tryz.prog EF := ⟨by kernel_rfl, TW_ok, Us.names_ok, (fun f F h => by
 have h : (if f = 32 then some ixbyteF else none) = some F := h
 split at h
 ·rename_i e; subst e; cases h; exact ora32
 ·cases h), (fun f F h => by
 have h : (if f = 64 then some Us.F64 else if f = 114 then some clnR else if f = 41 then some clnL else none) = some F := h
 split at h
 ·rename_i e; subst e; cases h; exact Us.ora64
 ·split at h
  ·rename_i e; subst e; cases h; exact orad114
  ·split at h
   ·rename_i e; subst e; cases h; exact orad41
   ·cases h)⟩
noncomputable def RB (n : Nat) : Calling := run2 Tryz.prog EV EF useB n
theorem ora_ofG {E1 : Env} {use : Nat → Bool} (hG : Good False Tryz.prog E1) (hU : ∀ f, use f = true → Is Tryz.prog f) {n f : Nat} {xs : List V} {r : V} (hr : (run2 Tryz.prog EV E1 use n f (xs.map .v) []).bind (fun p => frz p.2 15 p.1) = some r) {S : Nat → Nat → Prop} {w : World} {us : Array Value} (hrel : RelL S [] w us (xs.map .v)) (hs : ∀ b i, S b i → b < w.heap.size) (hg : Glob S w) :
  Calls Tryz.prog f us w fun e w' => ∃ v S', e = .returned v ∧ Ext False S [] w S' [] w' ∧ HInv S' [] w' [] ∧ RelV S' w' v r := by
 obtain ⟨⟨d, h'⟩, h1, h2⟩ := Option.bind_eq_some_iff.1 hr
 have hc := (run2_sound (DR := False) (E := EV) hG (fun _ => TW_ok) hU n f _ _ _ _ h1).2
 have hi := hinv_nil hs hg
 refine (hc S [] w us hrel hi).mono ?_
 rintro e w' ⟨v, S1, β1, rfl, hE1, hI1, hR1⟩
 have hin : ∀ b i, withOwn S1 β1 h' b i → S b i ∨ w.heap.size ≤ b := by
  intro b i hs
  rcases hs with hs | ⟨q, o, c, k, g1, g2, g3⟩
  ·rcases hE1.stay b i hs with g | g | ⟨q, c, k, g⟩
   ·exact .inl g
   ·exact .inr g
   ·simp at g
  ·obtain ⟨k', rfl⟩ := hI1.kpos g1 g2 g3
   rcases hE1.fresh q b c k' g3 with g | ⟨q', c', k'', g⟩
   ·exact .inr g
   ·simp at g
 obtain ⟨b1, b2⟩ := back_from (S' := withOwn S1 β1 h') (h1 := h') hi hE1 (fun _ _ h => h) (fun b i hs => .inl (hE1.keeps b i hs).1) hin (own_sb hI1)
 exact ⟨v, _, rfl, b1, b2, frz_sound hI1 15 _ _ _ h2 hR1⟩
theorem ora_of {n f : Nat} {xs : List V} {r : V} (hr : (RB n f (xs.map .v) []).bind (fun p => frz p.2 15 p.1) = some r) {S : Nat → Nat → Prop} {w : World} {us : Array Value} (hrel : RelL S [] w us (xs.map .v)) (hs : ∀ b i, S b i → b < w.heap.size) (hg : Glob S w) :
  Calls Tryz.prog f us w fun e w' => ∃ v S', e = .returned v ∧ Ext False S [] w S' [] w' ∧ HInv S' [] w' [] ∧ RelV S' w' v r := ora_ofG goodF useB_is hr hrel hs hg
def F39 : List V → Option V
 | [.sl .plain [], .fn 40] => some (.tuple [])
 | _ => none
theorem run39 : (RB 20 39 ([V.sl .plain [], V.fn 40].map .v) []).bind (fun p => frz p.2 15 p.1) = some (.tuple []) := by kernel_rfl
theorem ora39 : OraOk False Tryz.prog 39 F39 := by
 refine ⟨useB_is 39 (by kernel_rfl), fun vs r hF S w us hrel hs hg => ?_⟩
 unfold F39 at hF
 split at hF
 ·cases hF
  exact ora_of run39 hrel hs hg
 ·cases hF
def cDogs : V := .agg [.sl .plain [.agg [.str ⟨#[114, 111, 111, 116]⟩, .sl .plain [.agg [.str ⟨#[100, 111, 103]⟩, .str ⟨#[100, 111, 103]⟩, .sl .plain [.str ⟨#[110]⟩], .int .i64 1, .int .i64 0]]], .agg [.str ⟨#[110, 117, 109, 98, 101, 114]⟩, .sl .plain [.agg [.str ⟨#[]⟩, .str ⟨#[]⟩, .sl .plain [.str ⟨#[115, 103]⟩], .int .i64 (-1), .int .i64 0], .agg [.str ⟨#[]⟩, .str ⟨#[115]⟩, .sl .plain [.str ⟨#[112, 108]⟩], .int .i64 (-1), .int .i64 2]]]]]
def cCop : V := .sl .plain [.agg [.int .i64 100, .int .i64 100], .agg [.int .i64 103, .int .i64 103], .agg [.int .i64 111, .int .i64 111], .agg [.int .i64 115, .int .i64 115]]
def cTags : V := .sl .plain [.str ⟨#[110]⟩, .str ⟨#[112, 108]⟩, .str ⟨#[115, 103]⟩]
def cSur : V := .agg [.int .i64 1, .sl .plain [.agg [.int .i64 0, .int .i64 0, .int .i64 100, .int .i64 100, .int .i64 0], .agg [.int .i64 0, .int .i64 0, .int .i64 103, .int .i64 103, .int .i64 0], .agg [.int .i64 0, .int .i64 0, .int .i64 111, .int .i64 111, .int .i64 0], .agg [.int .i64 0, .int .i64 0, .int .i64 115, .int .i64 115, .int .i64 0]], .sl .plain [.agg [.int .i64 0, .int .i64 0]]]
def cLex : V := .agg [.int .i64 6, .sl .plain [.agg [.int .i64 0, .int .i64 3, .int .i64 100, .int .i64 100, .int .i64 0], .agg [.int .i64 1, .int .i64 2, .int .i64 983041, .int .i64 115, .int .i64 2], .agg [.int .i64 1, .int .i64 2, .int .i64 983042, .int .i64 0, .int .i64 0], .agg [.int .i64 3, .int .i64 4, .int .i64 111, .int .i64 111, .int .i64 0], .agg [.int .i64 4, .int .i64 5, .int .i64 103, .int .i64 103, .int .i64 0], .agg [.int .i64 5, .int .i64 1, .int .i64 983040, .int .i64 0, .int .i64 0]], .sl .plain [.agg [.int .i64 2, .int .i64 0]]]
abbrev cAna : V := cLex
def cAcc1 : V := .agg [.int .i64 4, .sl .plain [.agg [.int .i64 0, .int .i64 1, .int .i64 100, .int .i64 100, .int .i64 0], .agg [.int .i64 1, .int .i64 2, .int .i64 111, .int .i64 111, .int .i64 0], .agg [.int .i64 2, .int .i64 3, .int .i64 103, .int .i64 103, .int .i64 0]], .sl .plain [.agg [.int .i64 3, .int .i64 0]]]
def cAcc2 : V := .agg [.int .i64 5, .sl .plain [.agg [.int .i64 0, .int .i64 1, .int .i64 100, .int .i64 100, .int .i64 0], .agg [.int .i64 1, .int .i64 2, .int .i64 111, .int .i64 111, .int .i64 0], .agg [.int .i64 2, .int .i64 3, .int .i64 103, .int .i64 103, .int .i64 0], .agg [.int .i64 3, .int .i64 4, .int .i64 115, .int .i64 115, .int .i64 0]], .sl .plain [.agg [.int .i64 4, .int .i64 0]]]
def cM1 : V := .agg [.int .i64 6, .sl .plain [.agg [.int .i64 0, .int .i64 3, .int .i64 100, .int .i64 100, .int .i64 0], .agg [.int .i64 1, .int .i64 2, .int .i64 983042, .int .i64 0, .int .i64 0], .agg [.int .i64 3, .int .i64 4, .int .i64 111, .int .i64 111, .int .i64 0], .agg [.int .i64 4, .int .i64 5, .int .i64 103, .int .i64 103, .int .i64 0], .agg [.int .i64 5, .int .i64 1, .int .i64 983040, .int .i64 0, .int .i64 0]], .sl .plain [.agg [.int .i64 2, .int .i64 0]]]
def cM2 : V := .agg [.int .i64 6, .sl .plain [.agg [.int .i64 0, .int .i64 3, .int .i64 100, .int .i64 100, .int .i64 0], .agg [.int .i64 1, .int .i64 2, .int .i64 983041, .int .i64 115, .int .i64 2], .agg [.int .i64 3, .int .i64 4, .int .i64 111, .int .i64 111, .int .i64 0], .agg [.int .i64 4, .int .i64 5, .int .i64 103, .int .i64 103, .int .i64 0], .agg [.int .i64 5, .int .i64 1, .int .i64 983040, .int .i64 0, .int .i64 0]], .sl .plain [.agg [.int .i64 2, .int .i64 0]]]
def cAll1 : V := .sl .plain [.agg [.sl .plain [.int .i64 100, .int .i64 111, .int .i64 103, .int .i64 983040, .int .i64 983042], .sl .plain [.int .i64 100, .int .i64 111, .int .i64 103], .int .i64 0]]
def cAll2 : V := .sl .plain [.agg [.sl .plain [.int .i64 100, .int .i64 111, .int .i64 103, .int .i64 983040, .int .i64 983041], .sl .plain [.int .i64 100, .int .i64 111, .int .i64 103, .int .i64 115], .int .i64 2]]
def cF0 : V := .agg [.int .i64 0, .int .i64 0]
def tabF (tb : List (List V × V)) (vs : List V) : Option V := (tb.find? fun p => eqVs p.1 vs).map (·.2)
theorem tab_ok {f : Nat} (hI : Is Tryz.prog f) (tb : List (List V × V)) (h : ∀ p ∈ tb, ∀ S w us, RelL S [] w us (p.1.map .v) → (∀ b i, S b i → b < w.heap.size) → Glob S w → Calls Tryz.prog f us w fun e w' => ∃ v S', e = .returned v ∧ Ext False S [] w S' [] w' ∧ HInv S' [] w' [] ∧ RelV S' w' v p.2) : OraOk False Tryz.prog f (tabF tb) := by
 refine ⟨hI, fun vs r hF S w us hrel hs hg => ?_⟩
 unfold tabF at hF
 obtain ⟨p, hp, rfl⟩ := Option.map_eq_some_iff.1 hF
 have hm := List.mem_of_find?_eq_some hp
 have he := List.find?_some hp
 rw [← eqVs_eq _ _ he] at hrel
 exact h p hm S w us hrel hs hg
def tabD (tb : List ((List D × List AObj) × (D × List AObj))) (ds : List D) (h : List AObj) : Option (D × List AObj) := (tb.find? fun p => eqSt ⟨p.1.1, p.1.2⟩ ⟨ds, h⟩).map (·.2)
theorem tabD_ok {f : Nat} {tb : List ((List D × List AObj) × (D × List AObj))} (hI : Is Tryz.prog f) (h : ∀ p ∈ tb, RB 60 f p.1.1 p.1.2 = some p.2) : DOk False Tryz.prog f (tabD tb) := by
 refine ⟨hI, fun ds h0 d h' hF => ?_⟩
 unfold tabD at hF
 obtain ⟨p, hp, hp2⟩ := Option.map_eq_some_iff.1 hF
 have hm := List.mem_of_find?_eq_some hp
 have hb : eqSt ⟨p.1.1, p.1.2⟩ ⟨ds, h0⟩ = true := by have := List.find?_some hp; exact this
 have he := eqSt_eq hb
 have hn := h p hm
 obtain ⟨⟨ds', h0'⟩, d', h1'⟩ := p
 cases he
 cases hp2
 exact (run2_sound (DR := False) (E := EV) goodF (fun _ => TW_ok) useB_is 60 f _ _ _ _ hn).2
end Go.Abs.Uv
