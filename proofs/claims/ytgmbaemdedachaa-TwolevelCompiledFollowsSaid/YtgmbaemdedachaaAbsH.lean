import Derived.Test.YtgmbaemdedachaaAbsW
import Derived.Test.YtgmbaemdedachaaAbsG
import Derived.Shelf.Unicode.DecodeSlow
import Derived.Lib.RuneCount
import Derived.Shelf.Small.Strs
namespace Go.Abs
set_option linter.unusedVariables false
set_option linter.unusedSimpArgs false
set_option linter.unnecessarySimpa false
variable {α : Type}
@[simp] theorem cnd_true (x y : Option α) : cnd true x y = x := rfl
@[simp] theorem cnd_false (x y : Option α) : cnd false x y = y := rfl
variable {β : Type}
@[simp] theorem bnd_some' (a : α) (f : α → Option β) : bnd (some a) f = f a := rfl
@[simp] theorem bnd_none (f : α → Option β) : bnd none f = none := rfl
variable {A B R : Type}
@[simp] theorem brk_inl (r : R) (f : R → Option B) (g : A → Option B) : brk (some (.inl r)) f g = f r := rfl
@[simp] theorem brk_inr (a : A) (f : R → Option B) (g : A → Option B) : brk (some (.inr a)) f g = g a := rfl
theorem w64_id {n : Int} (h : -9223372036854775808 ≤ n ∧ n ≤ 9223372036854775807) : w64 n = n := by
 unfold w64 IntKind.wrap
 simp [IntKind.bits, IntKind.signed]
 omega
def scan {α R S : Type} (g : Int → S → α → Option (R ⊕ S)) : Int → S → List α → Option (R ⊕ S)
 | _, s, [] => some (.inr s)
 | i, s, x :: r => match g i s x with
  | some (.inl r) => some (.inl r)
  | some (.inr s') => scan g (i + 1) s' r
  | none => none
def turn {α R S A : Type} (xs : List α) (mk : S → Int → A) (g : Int → S → α → Option (R ⊕ S)) (s : S) (i : Nat) : Option (Stp R A) := match xs[i]? with
 | some x => match g i s x with
  | some (.inl r) => some (.ret r)
  | some (.inr s') => some (.nxt (mk s' ((i : Int) + 1)))
  | none => none
 | none => some (.brk (mk s i))
def landed {R S A : Type} (mk : S → Int → A) (n : Nat) : Option (R ⊕ S) → Option (R ⊕ A)
 | some (.inl r) => some (.inl r)
 | some (.inr s) => some (.inr (mk s n))
 | none => none
theorem iter_scan {α R S A : Type} (xs : List α) (B : A → Option (Stp R A)) (mk : S → Int → A) (g : Int → S → α → Option (R ⊕ S)) (hB : ∀ (s : S) (i : Nat), i ≤ xs.length → B (mk s i) = turn xs mk g s i) :
  ∀ (m i : Nat) (s : S), i ≤ xs.length → xs.length < m + i → iter B m (mk s i) = landed mk xs.length (scan g i s (xs.drop i))
 | 0, i, s, h1, h2 => by omega
 | m + 1, i, s, h1, h2 => by
  unfold iter
  rw [hB s i h1]
  unfold turn
  rcases Nat.lt_or_ge i xs.length with hlt | hge
  ·rw [zA hlt, zI hlt]
   simp only [scan]
   cases hg : g i s xs[i] with
   | none => rfl
   | some o =>
    cases o with
    | inl r => rfl
    | inr s' =>
     have := iter_scan xs B mk g hB m (i + 1) s' hlt om
     exact this
  ·have : i = xs.length := by omega
   subst this
   simp [scan, landed]
theorem body_turn {S : Type} {xs : List α} {mk : S → Int → A} {g : Int → S → α → Option (R ⊕ S)} {s : S} {i : Nat} {K : α → Option (Stp R A)} {z : A} (hz : z = mk s i)
  (hK : ∀ x, xs[i]? = some x → K x = match g i s x with
   | some (.inl r) => some (.ret r)
   | some (.inr s') => some (.nxt (mk s' ((i : Int) + 1)))
   | none => none) : cnd (decide ((i : Int) < (xs.length : Int))) (bnd (idx xs (i : Int)) K) (some (.brk z)) = turn xs mk g s i := by
 unfold turn
 rcases Nat.lt_or_ge i xs.length with hlt | hge
 ·have h1 : decide ((i : Int) < (xs.length : Int)) = true := by simpa using hlt
  have h2 : idx xs (i : Int) = some xs[i] := by simp [idx, zA hlt]
  have h3 := zA hlt
  rw [h1, h2, h3]
  exact hK _ h3
 ·have h1 : decide ((i : Int) < (xs.length : Int)) = false := by simpa using hge
  rw [h1, zS hge, hz]
  rfl
variable {DR : Prop}
def OraOk (DR : Prop) (P : Program) (f : FuncId) (F : List V → Option V) : Prop := Is P f ∧ ∀ vs r, F vs = some r → ∀ S w us, RelL S [] w us (vs.map .v) → (∀ b i, S b i → b < w.heap.size) → Glob S w →
 Calls P f us w fun e w' => ∃ v S', e = .returned v ∧ Ext DR S [] w S' [] w' ∧ HInv S' [] w' [] ∧ RelV S' w' v r
variable {P : Program} {n : Nat} {r : V} {xs : List V}
theorem pureCalls {E : Env} (hG : Good DR P E) {f : FuncId} {d : D} {h1 : List AObj} (hrun : run P E n f (xs.map .v) [] = some (d, h1)) (hr : frz h1 6 d = some r) :
  Is P f ∧ ∀ S w us, RelL S [] w us (xs.map .v) → (∀ b i, S b i → b < w.heap.size) → Glob S w → Calls P f us w fun e w' => ∃ v S', e = .returned v ∧ Ext DR S [] w S' [] w' ∧ HInv S' [] w' [] ∧ RelV S' w' v r := by
 obtain ⟨hex, hcalls⟩ := run_sound hG n f _ [] d h1 hrun
 refine ⟨hex, fun S w us hrel hsb hgl => (hcalls S [] w us hrel (hinv_nil hsb hgl)).mono ?_⟩
 rintro e w1 ⟨v, S1, β1, rfl, hE, hI, hR⟩
 have hin : ∀ b i, withOwn S1 β1 h1 b i → S b i ∨ w.heap.size ≤ b := by
  intro b i hs
  rcases hs with hs | ⟨r, o, c, k, g1, g2, g3⟩
  ·rcases hE.stay b i hs with g | g | ⟨r, c, k, g⟩
   ·exact .inl g
   ·exact .inr g
   ·simp at g
  ·obtain ⟨k0, rfl⟩ := hI.kpos g1 g2 g3
   rcases hE.fresh r b c k0 g3 with g | ⟨r', c', k', g⟩
   ·exact .inr g
   ·simp at g
 obtain ⟨e1, e2⟩ := back_from (S' := withOwn S1 β1 h1) (h1 := h1) (hinv_nil hsb hgl) hE (fun _ _ h => h) (fun b i hs => .inl (hE.keeps b i hs).1) hin (own_sb hI)
 exact ⟨v, _, rfl, e1, e2, frz_sound hI 6 _ _ _ hr hR⟩
theorem ora_fn {E : Env} {f : Nat} {F : List V → Option V} (hf : (P.funcs[f]?).isSome = true) (hF : E.ora f = some F) (hD : E.oraD f = none) (hr : F xs = some r) (hp : plainT r = r) : Fn P E (n + 1) f (xs.map .v) r := by
 obtain ⟨fn, hfn⟩ := Option.isSome_iff_exists.1 hf
 have hx : pures ((xs.map D.v).map D.unt) = some xs := by
  clear hr
  induction xs with
  | nil => rfl
  | cons x r ih => simp only [List.map_cons, D.unt, pures, D.pure?, ih]
 refine ⟨.v r, [], ?_, by simp only [frz, hp]⟩
 simp only [run, hfn, hF, hD, hx, hr, Option.map_some]
open Go.RowKit (Below)
variable {DR : Prop}
variable {α : Type}
theorem cnd_eq (b : Bool) (x y : Option α) : cnd b x y = if b = true then x else y := by cases b <;> rfl
theorem lt_of_get {l : List α} {i : Nat} {x : α} (h : l[i]? = some x) : i < l.length := by
 rcases Nat.lt_or_ge i l.length with h' | h'
 ·exact h'
 ·rw [zS h'] at h; cases h
theorem idx_get (l : List α) (i : Nat) : idx l (i : Int) = l[i]? := by
 unfold idx
 rw [if_pos om, zN]
end Go.Abs
