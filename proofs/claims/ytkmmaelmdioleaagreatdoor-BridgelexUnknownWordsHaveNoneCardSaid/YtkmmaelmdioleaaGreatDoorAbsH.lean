import Derived.Test.YtkmmaelmdioleaaGreatDoorAbsW
import Derived.Test.YtkmmaelmdioleaaGreatDoorAbsN
import Derived.Shelf.Unicode.DecodeSlow
import Derived.Lib.RuneCount
import Derived.Shelf.Small.Strs
namespace Go.Abs
set_option linter.unusedVariables false
set_option linter.unusedSimpArgs false
set_option linter.unnecessarySimpa false
@[simp] theorem cnd_true {α : Type} (x y : Option α) : cnd true x y = x := rfl
@[simp] theorem cnd_false {α : Type} (x y : Option α) : cnd false x y = y := rfl
@[simp] theorem bnd_some' {α β : Type} (a : α) (f : α → Option β) : bnd (some a) f = f a := rfl
@[simp] theorem bnd_none {α β : Type} (f : α → Option β) : bnd none f = none := rfl
@[simp] theorem brk_inl {R A B : Type} (r : R) (f : R → Option B) (g : A → Option B) : brk (some (.inl r)) f g = f r := rfl
@[simp] theorem brk_inr {R A B : Type} (a : A) (f : R → Option B) (g : A → Option B) : brk (some (.inr a)) f g = g a := rfl
theorem w64_id {n : Int} (h : -9223372036854775808 ≤ n ∧ n ≤ 9223372036854775807) : w64 n = n := by
 unfold w64 IntKind.wrap
 simp [IntKind.bits, IntKind.signed]
 omega
def scan {α R S : Type} (g : Int → S → α → Option (R ⊕ S)) : Int → S → List α → Option (R ⊕ S)
 | _, s, [] => some (.inr s)
 | i, s, x :: r => match g i s x with
  | some (.inl r) => some (.inl r)
  | some (.inr s') => scan g (i + 1) s' r
  | none => none
def turn {α R S A : Type} (xs : List α) (mk : S → Int → A) (g : Int → S → α → Option (R ⊕ S)) (s : S) (i : Nat) : Option (Stp R A) := match xs[i]? with
 | some x => match g i s x with
  | some (.inl r) => some (.ret r)
  | some (.inr s') => some (.nxt (mk s' ((i : Int) + 1)))
  | none => none
 | none => some (.brk (mk s i))
def landed {R S A : Type} (mk : S → Int → A) (n : Nat) : Option (R ⊕ S) → Option (R ⊕ A)
 | some (.inl r) => some (.inl r)
 | some (.inr s) => some (.inr (mk s n))
 | none => none
theorem iter_scan {α R S A : Type} (xs : List α) (B : A → Option (Stp R A)) (mk : S → Int → A) (g : Int → S → α → Option (R ⊕ S)) (hB : ∀ (s : S) (i : Nat), i ≤ xs.length → B (mk s i) = turn xs mk g s i) :
  ∀ (m i : Nat) (s : S), i ≤ xs.length → xs.length < m + i → iter B m (mk s i) = landed mk xs.length (scan g i s (xs.drop i))
 | 0, i, s, h1, h2 => by omega
 | m + 1, i, s, h1, h2 => by
  unfold iter
  rw [hB s i h1]
  unfold turn
  rcases Nat.lt_or_ge i xs.length with hlt | hge
  ·rw [List.getElem?_eq_getElem hlt, List.drop_eq_getElem_cons hlt]
   simp only [scan]
   cases hg : g i s xs[i] with
   | none => rfl
   | some o =>
    cases o with
    | inl r => rfl
    | inr s' =>
     have := iter_scan xs B mk g hB m (i + 1) s' hlt (by omega)
     exact this
  ·have : i = xs.length := by omega
   subst this
   simp [scan, landed]
theorem body_turn {α R S A : Type} {xs : List α} {mk : S → Int → A} {g : Int → S → α → Option (R ⊕ S)} {s : S} {i : Nat} {K : α → Option (Stp R A)} {z : A} (hz : z = mk s i)
  (hK : ∀ x, xs[i]? = some x → K x = match g i s x with
   | some (.inl r) => some (.ret r)
   | some (.inr s') => some (.nxt (mk s' ((i : Int) + 1)))
   | none => none) : cnd (decide ((i : Int) < (xs.length : Int))) (bnd (idx xs (i : Int)) K) (some (.brk z)) = turn xs mk g s i := by
 unfold turn
 rcases Nat.lt_or_ge i xs.length with hlt | hge
 ·have h1 : decide ((i : Int) < (xs.length : Int)) = true := by simpa using hlt
  have h2 : idx xs (i : Int) = some xs[i] := by simp [idx, List.getElem?_eq_getElem hlt]
  have h3 := List.getElem?_eq_getElem hlt
  rw [h1, h2, h3]
  exact hK _ h3
 ·have h1 : decide ((i : Int) < (xs.length : Int)) = false := by simpa using hge
  rw [h1, List.getElem?_eq_none hge, hz]
  rfl
open Go.RowKit (Below)
variable {DR : Prop}
def sidx (s : ByteArray) (i : Int) : Option Int := if 0 ≤ i then (s[i.toNat]?).map fun b => (b.toNat : Int) else none
def ssub (s : ByteArray) (lo hi : Int) : Option ByteArray := if 0 ≤ lo ∧ lo ≤ hi ∧ hi ≤ s.size then some (s.extract lo.toNat hi.toNat) else none
theorem str_ix {T : Nat → Option TI} (h : List AObj) (t : Nat) (s : ByteArray) (i x : Int) (hx : sidx s i = some x) (hT : (T t).map (·.kind) = some .str) : (indexD T t (.v (.str s)) (.v (.int .i64 i))).map (·, h) = some (.v (.int .u8 x), h) := by
 obtain ⟨ti, h1, h2⟩ := Option.map_eq_some_iff.1 hT
 unfold sidx at hx
 split at hx
 ·rename_i h0
  obtain ⟨b, hb, rfl⟩ := Option.map_eq_some_iff.1 hx
  simp only [indexD, h1, h2, natOf, if_pos h0, hb, Option.map_some]
 ·cases hx
theorem str_sub {T : Nat → Option TI} (h : List AObj) (t : Nat) (s z : ByteArray) (lo hi : Option Int) (hx : ssub s (lo.getD 0) (hi.getD s.size) = some z) (hT : (T t).map (·.kind) = some .str) :
  (sliceD T [] t (D.unt (.v (.str s))) (lo.map fun i => .v (.int .i64 i)) (hi.map fun i => .v (.int .i64 i)) none).map (·, h) = some (.v (.str z), h) := by
 obtain ⟨ti, h1, h2⟩ := Option.map_eq_some_iff.1 hT
 unfold ssub at hx
 split at hx
 ·rename_i hb
  cases hx
  have e1 : natOr 0 (lo.map fun i => D.v (.int .i64 i)) = some (lo.getD 0).toNat := by
   cases lo with
   | none => rfl
   | some i => simp only [Option.map_some, natOr, natOf, Option.getD_some] at hb ⊢; rw [if_pos hb.1]
  have e2 : natOr s.size (hi.map fun i => D.v (.int .i64 i)) = some (hi.getD s.size).toNat := by
   cases hi with
   | none => simp [natOr]
   | some i => simp only [Option.map_some, natOr, natOf, Option.getD_some] at hb ⊢; rw [if_pos (by omega)]
  have hc : (lo.getD 0).toNat ≤ (hi.getD s.size).toNat ∧ (hi.getD s.size).toNat ≤ s.size := by omega
  simp only [sliceD, D.unt, h1, h2, boundsD, e1, e2, if_pos hc, Option.map_some]
 ·cases hx
theorem below_ext (hn : ¬ DR) {S : Nat → Nat → Prop} {w w' : World} (hb : Below w.heap.size w w') (hs : ∀ b i, S b i → b < w.heap.size) (hg : Glob S w) : Ext DR S [] w S [] w' ∧ HInv S [] w' [] := by
 have hk : Keeps S w S w' := fun b i h => ⟨h, look_of_block (hb.block b (hs b i h))⟩
 exact ⟨⟨hk, fun _ _ h => h, hb.size, fun b hlt _ => hb.block b hlt, fun r b c k hr => by simp at hr, hb.os, hb.tape, hb.output, fun h => absurd h hn, fun _ _ h => .inl h⟩, hinv_nil (fun b i h => Nat.lt_of_lt_of_le (hs b i h) hb.size) (hg.mono hk)⟩
theorem str_arg {S : Nat → Nat → Prop} {w : World} {us : Array Value} {s : ByteArray} (h : RelL S [] w us ([V.str s].map .v)) : us = #[.string s] := by
 obtain ⟨h1, h2⟩ := h
 have hsz : us.size = 1 := h1
 have := h2 0 us[0] (.v (.str s)) (Array.getElem?_eq_getElem (by omega)) rfl
 have hv := this.of_v
 generalize hq : us[0] = u at hv
 cases hv
 obtain ⟨l⟩ := us
 match l, hsz with
 | [a], _ => exact congrArg (fun x => (⟨[x]⟩ : Array Value)) hq
theorem str_int_arg {S : Nat → Nat → Prop} {w : World} {us : Array Value} {s : ByteArray} {k : IntKind} {n : Int} (h : RelL S [] w us ([V.str s, .int k n].map .v)) : us = #[.string s, .int k n] := by
 obtain ⟨h1, h2⟩ := h
 have hsz : us.size = 2 := h1
 have e0 := (h2 0 us[0] (.v (.str s)) (Array.getElem?_eq_getElem (by omega)) rfl).of_v
 have e1 := (h2 1 us[1] (.v (.int k n)) (Array.getElem?_eq_getElem (by omega)) rfl).of_v
 generalize hq : us[0] = u at e0
 generalize hr : us[1] = v at e1
 cases e0
 cases e1
 obtain ⟨l⟩ := us
 match l, hsz with
 | [a, b], _ =>
  have ha : a = .string s := hq
  have hb : b = .int k n := hr
  rw [ha, hb]
def decodeF : List V → Option V
 | [.str s] => some (.tuple [.int .i32 (Lib.decodeGo s).1, .int .i64 (Lib.decodeGo s).2])
 | _ => none
theorem decode_sound (hn : ¬ DR) {P : Program} {f : Nat} (hI : Is P f) (ht : ∀ S w, Glob S w → ∃ a b, Lib.Utf8Tabs a b w ∧ ∀ s, Calls P f #[.string s] w fun e w' => e = .returned (.tuple #[.int .i32 (Lib.decodeGo s).1, .int .i64 (Lib.decodeGo s).2]) ∧ Below w.heap.size w w') : OraOk DR P f decodeF := by
 refine ⟨hI, fun vs r hF S w us hrel hs hg => ?_⟩
 unfold decodeF at hF
 split at hF
 ·rename_i s
  cases hF
  rw [str_arg hrel]
  obtain ⟨_, _, _, hc⟩ := ht S w hg
  refine (hc s).mono ?_
  rintro e w' ⟨rfl, hb⟩
  obtain ⟨e1, e2⟩ := below_ext hn hb hs hg
  refine ⟨_, S, rfl, e1, e2, .tuple _ _ rfl fun i v x hv hx => ?_⟩
  match i with
  | 0 => cases hv; cases hx; exact .int _ _
  | 1 => cases hv; cases hx; exact .int _ _
  | i + 2 => cases hx
 ·cases hF
def ixbyteF : List V → Option V
 | [.str s, .int .u8 c] => some (.int .i64 (Lib.indexByte s.data.toList c.toNat.toUInt8))
 | _ => none
theorem ixbyte_sound {P : Program} {f : Nat} (hI : Is P f) (hc : ∀ (s : ByteArray) (c : Int) (w : World), Calls P f #[.string s, .int .u8 c] w fun e w' => e = .returned (.int .i64 (Lib.indexByte s.data.toList c.toNat.toUInt8)) ∧ w' = w) : OraOk DR P f ixbyteF := by
 refine ⟨hI, fun vs r hF S w us hrel hs hg => ?_⟩
 unfold ixbyteF at hF
 split at hF
 ·rename_i s c
  cases hF
  rw [str_int_arg hrel]
  refine (hc s c w).mono ?_
  rintro e w' ⟨rfl, rfl⟩
  exact ⟨_, S, rfl, Ext.refl _ _ _, hinv_nil hs hg, .int _ _⟩
 ·cases hF
def allP {α : Type} (P : Int → α → Bool) : Int → List α → Bool
 | _, [] => true
 | i, x :: r => P i x && allP P (i + 1) r
theorem scan_allP {α R : Type} (P : Int → α → Bool) (c : R) : ∀ (xs : List α) (i : Int), scan (fun i (_ : Unit) x => if P i x then some (.inr ()) else some (.inl c)) i () xs = if allP P i xs then some (.inr ()) else some (.inl c)
 | [], i => rfl
 | x :: r, i => by
  by_cases h : P i x = true
  ·simp only [scan, h, if_true, allP, Bool.true_and]
   exact scan_allP P c r (i + 1)
  ·simp [scan, allP, h]
theorem allP_all {α : Type} (p : α → Bool) : ∀ (l : List α) (i : Int), allP (fun _ x => p x) i l = l.all p
 | [], i => rfl
 | x :: r, i => by simp only [allP, List.all_cons, allP_all p r]
theorem scan_all {α R : Type} (p : α → Bool) (c : R) (xs : List α) (i : Int) : scan (fun _ (_ : Unit) x => if p x then some (.inr ()) else some (.inl c)) i () xs = if xs.all p then some (.inr ()) else some (.inl c) := by
 rw [scan_allP (fun _ x => p x), allP_all]
theorem idx_get {α : Type} (l : List α) (i : Nat) : idx l (i : Int) = l[i]? := by
 unfold idx
 rw [if_pos (by omega), Int.toNat_natCast]
theorem body_turn' {α R S A : Type} {xs : List α} {mk : S → Int → A} {g : Int → S → α → Option (R ⊕ S)} {s : S} {i : Nat} {K : Option (Stp R A)} {z : A} (hz : z = mk s i)
  (hK : ∀ x, xs[i]? = some x → K = match g i s x with
   | some (.inl r) => some (.ret r)
   | some (.inr s') => some (.nxt (mk s' ((i : Int) + 1)))
   | none => none) : cnd (decide ((i : Int) < (xs.length : Int))) K (some (.brk z)) = turn xs mk g s i := by
 unfold turn
 rcases Nat.lt_or_ge i xs.length with hlt | hge
 ·have h1 : decide ((i : Int) < (xs.length : Int)) = true := by simpa using hlt
  have h3 := List.getElem?_eq_getElem hlt
  rw [h1, h3]
  exact hK _ h3
 ·have h1 : decide ((i : Int) < (xs.length : Int)) = false := by simpa using hge
  rw [h1, List.getElem?_eq_none hge, hz]
  rfl
theorem app_some {α : Type} (b : Nat) (xs ys : List α) (h : (xs.length + ys.length) * b ≤ 140737488355328) (h2 : xs.length + ys.length ≤ 1000000000) : app b xs ys = some (xs ++ ys) := by
 unfold app
 rw [if_pos ⟨h, by unfold maxLen; omega⟩]
def byt (s : ByteArray) : List Int := s.data.toList.map fun b => (b.toNat : Int)
theorem byt_len (s : ByteArray) : (byt s).length = s.size := by unfold byt; rw [List.length_map, Array.length_toList]; rfl
theorem sidx_get (s : ByteArray) (i : Nat) : sidx s (i : Int) = (byt s)[i]? := by
 unfold sidx byt
 rw [if_pos (by omega), Int.toNat_natCast, List.getElem?_map, Array.getElem?_toList]
 rfl
end Go.Abs
