import Derived.Test.YtgbhimkbfaebeaaGreatDoorAbsN
import Derived.Shelf.Unicode.DecodeSlow
import Derived.Lib.RuneCount
import Derived.Shelf.Small.Strs
namespace Go.Abs
open Go.RowKit (Below)
set_option linter.unusedVariables false
set_option linter.unusedSimpArgs false
set_option linter.unnecessarySimpa false
variable {DR : Prop}
def sidx (s : ByteArray) (i : Int) : Option Int := if 0 ≤ i then (s[i.toNat]?).map fun b => (b.toNat : Int) else none
def ssub (s : ByteArray) (lo hi : Int) : Option ByteArray := if 0 ≤ lo ∧ lo ≤ hi ∧ hi ≤ s.size then some (s.extract lo.toNat hi.toNat) else none
def scat (a b : ByteArray) : Option ByteArray := if a.size + b.size ≤ maxLen then some (a ++ b) else none
theorem str_ix {T : Nat → Option TI} (h : List AObj) (t : Nat) (s : ByteArray) (i x : Int) (hx : sidx s i = some x) (hT : (T t).map (·.kind) = some .str) : (indexD T t (.v (.str s)) (.v (.int .i64 i))).map (·, h) = some (.v (.int .u8 x), h) := by
 obtain ⟨ti, h1, h2⟩ := Option.map_eq_some_iff.1 hT
 unfold sidx at hx
 split at hx
 ·rename_i h0
  obtain ⟨b, hb, rfl⟩ := Option.map_eq_some_iff.1 hx
  simp only [indexD, h1, h2, natOf, if_pos h0, hb, Option.map_some]
 ·cases hx
theorem str_sub {T : Nat → Option TI} (h : List AObj) (t : Nat) (s z : ByteArray) (lo hi : Option Int) (hx : ssub s (lo.getD 0) (hi.getD s.size) = some z) (hT : (T t).map (·.kind) = some .str) :
  (sliceD T [] t (D.unt (.v (.str s))) (lo.map fun i => .v (.int .i64 i)) (hi.map fun i => .v (.int .i64 i)) none).map (·, h) = some (.v (.str z), h) := by
 obtain ⟨ti, h1, h2⟩ := Option.map_eq_some_iff.1 hT
 unfold ssub at hx
 split at hx
 ·rename_i hb
  cases hx
  have e1 : natOr 0 (lo.map fun i => D.v (.int .i64 i)) = some (lo.getD 0).toNat := by
   cases lo with
   | none => rfl
   | some i => simp only [Option.map_some, natOr, natOf, Option.getD_some] at hb ⊢; rw [if_pos hb.1]
  have e2 : natOr s.size (hi.map fun i => D.v (.int .i64 i)) = some (hi.getD s.size).toNat := by
   cases hi with
   | none => simp [natOr]
   | some i => simp only [Option.map_some, natOr, natOf, Option.getD_some] at hb ⊢; rw [if_pos (by omega)]
  have hc : (lo.getD 0).toNat ≤ (hi.getD s.size).toNat ∧ (hi.getD s.size).toNat ≤ s.size := by omega
  simp only [sliceD, D.unt, h1, h2, boundsD, e1, e2, if_pos hc, Option.map_some]
 ·cases hx
theorem str_cat {T : Nat → Option TI} (h : List AObj) (t : Nat) (a b z : ByteArray) (hx : scat a b = some z) : (binD T .add t (D.unt (.v (.str a))) (D.unt (.v (.str b)))).map (·, h) = some (.v (.str z), h) := by
 unfold scat at hx
 split at hx
 ·rename_i hb
  cases hx
  simp only [D.unt, binD, strOp, if_pos hb, Option.map_some]
 ·cases hx
theorem below_ext (hn : ¬ DR) {S : Nat → Nat → Prop} {w w' : World} (hb : Below w.heap.size w w') (hs : ∀ b i, S b i → b < w.heap.size) (hg : Glob S w) : Ext DR S [] w S [] w' ∧ HInv S [] w' [] := by
 have hk : Keeps S w S w' := fun b i h => ⟨h, look_of_block (hb.block b (hs b i h))⟩
 exact ⟨⟨hk, fun _ _ h => h, hb.size, fun b hlt _ => hb.block b hlt, fun r b c k hr => by simp at hr, hb.os, hb.tape, hb.output, fun h => absurd h hn, fun _ _ h => .inl h⟩, hinv_nil (fun b i h => Nat.lt_of_lt_of_le (hs b i h) hb.size) (hg.mono hk)⟩
theorem str_arg {S : Nat → Nat → Prop} {w : World} {us : Array Value} {s : ByteArray} (h : RelL S [] w us ([V.str s].map .v)) : us = #[.string s] := by
 obtain ⟨h1, h2⟩ := h
 have hsz : us.size = 1 := h1
 have := h2 0 us[0] (.v (.str s)) (Array.getElem?_eq_getElem (by omega)) rfl
 have hv := this.of_v
 generalize hq : us[0] = u at hv
 cases hv
 obtain ⟨l⟩ := us
 match l, hsz with
 | [a], _ => exact congrArg (fun x => (⟨[x]⟩ : Array Value)) hq
theorem str_int_arg {S : Nat → Nat → Prop} {w : World} {us : Array Value} {s : ByteArray} {k : IntKind} {n : Int} (h : RelL S [] w us ([V.str s, .int k n].map .v)) : us = #[.string s, .int k n] := by
 obtain ⟨h1, h2⟩ := h
 have hsz : us.size = 2 := h1
 have e0 := (h2 0 us[0] (.v (.str s)) (Array.getElem?_eq_getElem (by omega)) rfl).of_v
 have e1 := (h2 1 us[1] (.v (.int k n)) (Array.getElem?_eq_getElem (by omega)) rfl).of_v
 generalize hq : us[0] = u at e0
 generalize hr : us[1] = v at e1
 cases e0
 cases e1
 obtain ⟨l⟩ := us
 match l, hsz with
 | [a, b], _ =>
  have ha : a = .string s := hq
  have hb : b = .int k n := hr
  rw [ha, hb]
def decodeF : List V → Option V
 | [.str s] => some (.tuple [.int .i32 (Lib.decodeGo s).1, .int .i64 (Lib.decodeGo s).2])
 | _ => none
theorem decode_sound (hn : ¬ DR) {P : Program} {f : Nat} (hI : Is P f) (ht : ∀ S w, Glob S w → ∃ a b, Lib.Utf8Tabs a b w ∧ ∀ s, Calls P f #[.string s] w fun e w' => e = .returned (.tuple #[.int .i32 (Lib.decodeGo s).1, .int .i64 (Lib.decodeGo s).2]) ∧ Below w.heap.size w w') : OraOk DR P f decodeF := by
 refine ⟨hI, fun vs r hF S w us hrel hs hg => ?_⟩
 unfold decodeF at hF
 split at hF
 ·rename_i s
  cases hF
  rw [str_arg hrel]
  obtain ⟨_, _, _, hc⟩ := ht S w hg
  refine (hc s).mono ?_
  rintro e w' ⟨rfl, hb⟩
  obtain ⟨e1, e2⟩ := below_ext hn hb hs hg
  refine ⟨_, S, rfl, e1, e2, .tuple _ _ rfl fun i v x hv hx => ?_⟩
  match i with
  | 0 => cases hv; cases hx; exact .int _ _
  | 1 => cases hv; cases hx; exact .int _ _
  | i + 2 => cases hx
 ·cases hF
def ixbyteF : List V → Option V
 | [.str s, .int .u8 c] => some (.int .i64 (Lib.indexByte s.data.toList c.toNat.toUInt8))
 | _ => none
theorem ixbyte_sound {P : Program} {f : Nat} (hI : Is P f) (hc : ∀ (s : ByteArray) (c : Int) (w : World), Calls P f #[.string s, .int .u8 c] w fun e w' => e = .returned (.int .i64 (Lib.indexByte s.data.toList c.toNat.toUInt8)) ∧ w' = w) : OraOk DR P f ixbyteF := by
 refine ⟨hI, fun vs r hF S w us hrel hs hg => ?_⟩
 unfold ixbyteF at hF
 split at hF
 ·rename_i s c
  cases hF
  rw [str_int_arg hrel]
  refine (hc s c w).mono ?_
  rintro e w' ⟨rfl, rfl⟩
  exact ⟨_, S, rfl, Ext.refl _ _ _, hinv_nil hs hg, .int _ _⟩
 ·cases hF
end Go.Abs
