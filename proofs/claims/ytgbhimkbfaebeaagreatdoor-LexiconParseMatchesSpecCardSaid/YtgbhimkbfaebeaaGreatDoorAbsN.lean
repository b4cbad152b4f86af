import Derived.Test.YtgbhimkbfaebeaaGreatDoorAbsG
import Derived.Test.YtgbhimkbfaebeaaGreatDoorAbsW
namespace Go.Abs
set_option linter.unusedVariables false
set_option linter.unusedSimpArgs false
set_option linter.unnecessarySimpa false
variable {DR : Prop}
def OraOk (DR : Prop) (P : Program) (f : FuncId) (F : List V → Option V) : Prop := Is P f ∧ ∀ vs r, F vs = some r → ∀ S w us, RelL S [] w us (vs.map .v) → (∀ b i, S b i → b < w.heap.size) → Glob S w →
 Calls P f us w fun e w' => ∃ v S', e = .returned v ∧ Ext DR S [] w S' [] w' ∧ HInv S' [] w' [] ∧ RelV S' w' v r
theorem pureCalls {P : Program} {E : Env} (hG : Good DR P E) {n : Nat} {f : FuncId} {xs : List V} {d : D} {h1 : List AObj} {r : V} (hrun : run P E n f (xs.map .v) [] = some (d, h1)) (hr : frz h1 6 d = some r) :
  Is P f ∧ ∀ S w us, RelL S [] w us (xs.map .v) → (∀ b i, S b i → b < w.heap.size) → Glob S w → Calls P f us w fun e w' => ∃ v S', e = .returned v ∧ Ext DR S [] w S' [] w' ∧ HInv S' [] w' [] ∧ RelV S' w' v r := by
 obtain ⟨hex, hcalls⟩ := run_sound hG n f _ [] d h1 hrun
 refine ⟨hex, fun S w us hrel hsb hgl => (hcalls S [] w us hrel (hinv_nil hsb hgl)).mono ?_⟩
 rintro e w1 ⟨v, S1, β1, rfl, hE, hI, hR⟩
 have hin : ∀ b i, withOwn S1 β1 h1 b i → S b i ∨ w.heap.size ≤ b := by
  intro b i hs
  rcases hs with hs | ⟨r, o, c, k, g1, g2, g3⟩
  ·rcases hE.stay b i hs with g | g | ⟨r, c, k, g⟩
   ·exact .inl g
   ·exact .inr g
   ·simp at g
  ·obtain ⟨k0, rfl⟩ := hI.kpos g1 g2 g3
   rcases hE.fresh r b c k0 g3 with g | ⟨r', c', k', g⟩
   ·exact .inr g
   ·simp at g
 obtain ⟨e1, e2⟩ := back_from (S' := withOwn S1 β1 h1) (h1 := h1) (hinv_nil hsb hgl) hE (fun _ _ h => h) (fun b i hs => .inl (hE.keeps b i hs).1) hin (own_sb hI)
 exact ⟨v, _, rfl, e1, e2, frz_sound hI 6 _ _ _ hr hR⟩
abbrev Cc (k : Nat) : Type := {x : V // x.cells.length = k}
abbrev cc (k : Nat) : Cc k → V := Subtype.val
theorem ora_fn {P : Program} {E : Env} {n f : Nat} {F : List V → Option V} {xs : List V} {r : V} (hf : (P.funcs[f]?).isSome = true) (hF : E.ora f = some F) (hD : E.oraD f = none) (hr : F xs = some r) (hp : plainT r = r) : Fn P E (n + 1) f (xs.map .v) r := by
 obtain ⟨fn, hfn⟩ := Option.isSome_iff_exists.1 hf
 have hx : pures ((xs.map D.v).map D.unt) = some xs := by
  clear hr
  induction xs with
  | nil => rfl
  | cons x r ih => simp only [List.map_cons, D.unt, pures, D.pure?, ih]
 refine ⟨.v r, [], ?_, by simp only [frz, hp]⟩
 simp only [run, hfn, hF, hD, hx, hr, Option.map_some]
end Go.Abs
