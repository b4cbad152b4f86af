import Derived.Test.YtkmmaelmdioleaaGreatDoorAbsG
import Derived.Test.YtkmmaelmdioleaaGreatDoorAbsW
namespace Go.Abs
set_option linter.unusedVariables false
set_option linter.unusedSimpArgs false
set_option linter.unnecessarySimpa false
variable {DR : Prop}
def OraOk (DR : Prop) (P : Program) (f : FuncId) (F : List V → Option V) : Prop := Is P f ∧ ∀ vs r, F vs = some r → ∀ S w us, RelL S [] w us (vs.map .v) → (∀ b i, S b i → b < w.heap.size) → Glob S w →
 Calls P f us w fun e w' => ∃ v S', e = .returned v ∧ Ext DR S [] w S' [] w' ∧ HInv S' [] w' [] ∧ RelV S' w' v r
theorem pureCalls {P : Program} {E : Env} (hG : Good DR P E) {n : Nat} {f : FuncId} {xs : List V} {d : D} {h1 : List AObj} {r : V} (hrun : run P E n f (xs.map .v) [] = some (d, h1)) (hr : frz h1 6 d = some r) :
  Is P f ∧ ∀ S w us, RelL S [] w us (xs.map .v) → (∀ b i, S b i → b < w.heap.size) → Glob S w → Calls P f us w fun e w' => ∃ v S', e = .returned v ∧ Ext DR S [] w S' [] w' ∧ HInv S' [] w' [] ∧ RelV S' w' v r := by
 obtain ⟨hex, hcalls⟩ := run_sound hG n f _ [] d h1 hrun
 refine ⟨hex, fun S w us hrel hsb hgl => (hcalls S [] w us hrel (hinv_nil hsb hgl)).mono ?_⟩
 rintro e w1 ⟨v, S1, β1, rfl, hE, hI, hR⟩
 have hin : ∀ b i, withOwn S1 β1 h1 b i → S b i ∨ w.heap.size ≤ b := by
  intro b i hs
  rcases hs with hs | ⟨r, o, c, k, g1, g2, g3⟩
  ·rcases hE.stay b i hs with g | g | ⟨r, c, k, g⟩
   ·exact .inl g
   ·exact .inr g
   ·simp at g
  ·obtain ⟨k0, rfl⟩ := hI.kpos g1 g2 g3
   rcases hE.fresh r b c k0 g3 with g | ⟨r', c', k', g⟩
   ·exact .inr g
   ·simp at g
 obtain ⟨e1, e2⟩ := back_from (S' := withOwn S1 β1 h1) (h1 := h1) (hinv_nil hsb hgl) hE (fun _ _ h => h) (fun b i hs => .inl (hE.keeps b i hs).1) hin (own_sb hI)
 exact ⟨v, _, rfl, e1, e2, frz_sound hI 6 _ _ _ hr hR⟩
def cloneF (k b : Nat) : List V → Option V
 | [.sl _ es] => if (es.all fun x => x.cells.length == k) && (decide (es.length * b ≤ 140737488355328) && decide (es.length ≤ maxLen)) then some (.sl .plain es) else none
 | _ => none
theorem clone_sound {P : Program} {E : Env} (hG : Good DR P E) {f k b : Nat} (h0 : Fn P E 3 f [.v (.sl .nil [])] (.sl .plain []))
  (h1 : ∀ es : List V, (∀ x ∈ es, x.cells.length = k) → es.length * b ≤ 140737488355328 → es.length ≤ maxLen → Fn P E 3 f [.v (.sl .non es)] (.sl .plain es)) :
  Is P f ∧ ∀ vs r, cloneF k b vs = some r → ∀ S w us, RelL S [] w us (vs.map .v) → (∀ b i, S b i → b < w.heap.size) → Glob S w →
   Calls P f us w fun e w' => ∃ v S', e = .returned v ∧ Ext DR S [] w S' [] w' ∧ HInv S' [] w' [] ∧ RelV S' w' v r := by
 obtain ⟨d0, g0, r0, z0⟩ := h0
 have c0 := pureCalls (xs := [.sl .nil []]) hG r0 z0
 refine ⟨c0.1, fun vs r hF S w us hrel hsb hgl => ?_⟩
 unfold cloneF at hF
 split at hF
 ·rename_i fl es
  split at hF
  ·rename_i hc
   cases hF
   simp only [Bool.and_eq_true, decide_eq_true_eq, List.all_eq_true, beq_iff_eq] at hc
   obtain ⟨hc1, hc2, hc3⟩ := hc
   have hsz : us.size = 1 := hrel.1
   have hu := hrel.2 0 us[0] (.v (.sl fl es)) (Array.getElem?_eq_getElem (by omega)) rfl
   have mk : ∀ x : V, RelV S w us[0] x → RelL S [] w us ([x].map .v) := by
    intro x hx
    refine ⟨hsz, fun i v d hv hd => ?_⟩
    cases i with
    | zero =>
     rw [Array.getElem?_eq_getElem (by omega)] at hv
     cases hv
     cases hd
     exact .v _ _ hx
    | succ i => cases hd
   have hv := hu.of_v
   have non : RelV S w us[0] (.sl .non es) → Calls P f us w fun e w' => ∃ v S', e = .returned v ∧ Ext DR S [] w S' [] w' ∧ HInv S' [] w' [] ∧ RelV S' w' v (.sl .plain es) := by
    intro hx
    obtain ⟨d1, g1, r1, z1⟩ := h1 es hc1 hc2 hc3
    exact (pureCalls (xs := [.sl .non es]) hG r1 z1).2 S w us (mk _ hx) hsb hgl
   generalize hq : us[0] = u at hv non mk
   cases hv with
   | slnil _ h => exact c0.2 S w us (mk _ (.slnil .nil (by decide))) hsb hgl
   | slemp _ a cap h hf hm => exact non (.slemp .non a cap (by decide) (by intro h; cases h) hm)
   | sl _ b off cap k n _ vals hn h hf hcn hm hsol hs hr => exact non (.sl .non b off cap k n es vals hn (by decide) (by intro h; cases h) hcn hm hsol hs hr)
  ·cases hF
 ·cases hF
abbrev Cc (k : Nat) : Type := {x : V // x.cells.length = k}
abbrev cc (k : Nat) : Cc k → V := Subtype.val
theorem sub_list {k : Nat} : ∀ (es : List V), (∀ x ∈ es, x.cells.length = k) → ∃ l : List (Cc k), l.map (cc k) = es
 | [], _ => ⟨[], rfl⟩
 | x :: r, h => by
  obtain ⟨l, hl⟩ := sub_list r fun y hy => h y (List.mem_cons_of_mem _ hy)
  exact ⟨⟨x, h x List.mem_cons_self⟩ :: l, by rw [List.map_cons, hl]⟩
theorem nil_non {α : Type} {T : Nat → Option TI} (h : List AObj) (t e : Nat) (fl : SFlag) (f : α → V) (xs : List α) (hfl : fl.isNil = some false) (hT : (T t).map (·.kind) = some (.slice e)) :
  (binD T .eql t (D.unt (.v (.sl fl (xs.map f)))) (D.unt (.v (.sl .nil [])))).map (·, h) = some (.v (.bool false), h) := by
 obtain ⟨ti, h1, h2⟩ := Option.map_eq_some_iff.1 hT
 have he : ∀ x : D, eqD T t x (.v (.sl .nil [])) = isNilS x := by
  intro x
  unfold eqD
  rw [h1]
  obtain ⟨kd, s, b, z, q⟩ := ti
  have h2 : kd = .slice e := h2
  subst h2
  rfl
 have hx : isNilS (.v (.sl fl (xs.map f))) = some false := by cases xs <;> simp [isNilS, hfl]
 simp only [D.unt, binD, he, hx, Option.map_some]
theorem ora_fn {P : Program} {E : Env} {n f : Nat} {F : List V → Option V} {xs : List V} {r : V} (hf : (P.funcs[f]?).isSome = true) (hF : E.ora f = some F) (hD : E.oraD f = none) (hr : F xs = some r) (hp : plainT r = r) : Fn P E (n + 1) f (xs.map .v) r := by
 obtain ⟨fn, hfn⟩ := Option.isSome_iff_exists.1 hf
 have hx : pures ((xs.map D.v).map D.unt) = some xs := by
  clear hr
  induction xs with
  | nil => rfl
  | cons x r ih => simp only [List.map_cons, D.unt, pures, D.pure?, ih]
 refine ⟨.v r, [], ?_, by simp only [frz, hp]⟩
 simp only [run, hfn, hF, hD, hx, hr, Option.map_some]
def trueF : List V → Option V
 | [] => some (.bool true)
 | _ => none
end Go.Abs
