/-
  THE ABSTRACT LAYER, 18: the end of a law where the form's own reach is used (no argument takes more bytes than a process can have).
-/
import Derived.Test.YtgieobehohljnaaDoorAbsL
import Derived.SizedLaws
namespace Go.Abs
open Go.ChangeShapes Go.WideShapes Go.ChangeAt Go.RowKit
set_option linter.unusedVariables false
variable {DR : Prop}

/-- no argument that is a list or a string takes more than the reach -/
def SizedL (P : Program) (ts : List Nat) (xs : List V) : Prop := (∀ (j : Nat) t e es, ts[j]? = some t → xs[j]? = some (.sl .plain es) → P.underlying t = some (.slice e) → es.length * P.bytesOf e ≤ reachBytes) ∧
  ∀ (j : Nat) t b, ts[j]? = some t → xs[j]? = some (.str b) → P.underlying t = some .string → b.size ≤ reachBytes

section
variable {H : Type} {enc : TypeId × Value → H} {P : Program} {w : World} {base : Nat} {sp : Nat → Bool} {held : Bool}
theorem trod_len {n t e : Nat} {r : DataW H × List MemPlace} {a : Addr} {len cap : Nat} (g : P.underlying t = some (.slice e)) {cs : List Value} (h : DataW.trod enc P w base sp held (n + 1) t cs = some r) (hcs : cs = [.slice (some a) len cap]) : ∃ elems spare, r.1 = .slice elems spare ∧ elems.length = len := by
  unfold DataW.trod at h
  rw [g] at h
  split at h
  case h_8 e0 a0 len0 cap0 heq =>
    cases heq
    cases hcs
    split at h
    · obtain ⟨elems, hel, h2⟩ := Option.bind_eq_some_iff.1 h
      obtain ⟨m1, _⟩ := mapM_spec hel
      simp only [List.length_range] at m1
      obtain ⟨rest, _, h3⟩ := Option.map_eq_some_iff.1 h2
      exact ⟨_, _, by rw [← h3], by simpa using m1⟩
    · cases h
  all_goals first | (exfalso; simp_all; done) | cases h
theorem trod_strZ {n t : Nat} {r : DataW H × List MemPlace} {b : ByteArray} (g : P.underlying t = some .string) {cs : List Value} (h : DataW.trod enc P w base sp held (n + 1) t cs = some r) (hcs : cs = [.string b]) : r.1 = .lit (.string b.data.toList) := by
  unfold DataW.trod at h
  rw [g, hcs] at h
  simp only at h
  split at h
  · cases h; rfl
  · cases h
theorem trodAll_get : ∀ {ts : List Nat} {vs : List Value} {ds : List (DataW H)} {ps : List MemPlace} {j t : Nat}, DataW.TrodAll enc P w base sp held ts vs ds ps → ts[j]? = some t → ∃ v d p, vs[j]? = some v ∧ ds[j]? = some d ∧ DataW.Trod enc P w base sp held t v d p
  | [], vs, ds, ps, j, t, h, ht => by simp at ht
  | t0 :: ts, vs, ds, ps, j, t, h, ht => by
    obtain ⟨v, vs', d, ds', p, q, rfl, rfl, rfl, h1, h2⟩ := trodAll_cons h
    cases j with
    | zero =>
      simp only [List.getElem?_cons_zero, Option.some.injEq] at ht
      subst ht
      exact ⟨v, d, p, rfl, rfl, h1⟩
    | succ j =>
      obtain ⟨v', d', p', g1, g2, g3⟩ := trodAll_get h2 (by simpa using ht : ts[j]? = some t)
      exact ⟨v', d', p', by simpa using g1, by simpa using g2, g3⟩
theorem sized_of {ts tv : List Nat} {vs : List Value} {ds gs : List (DataW H)} {ps : List MemPlace} {xs : List V} (hA : DataW.TrodAll enc P w base sp held ts vs ds ps) (hr : ∀ (i : Nat) v x, vs[i]? = some v → xs[i]? = some x → RelV (there w) w v x)
    (hz : (DataW.weightsEach P (ts ++ tv) (ds ++ gs)).all (· ≤ reachBytes) = true) : SizedL P ts xs := by
  refine ⟨?_, fun j t b ht hx hu => ?_⟩
  case refine_2 =>
    obtain ⟨v, d, p, g1, g2, n, g3⟩ := trodAll_get hA ht
    have hR := hr j v _ g1 hx
    have hlt := lt_of_getElem? ht
    have hld := lt_of_getElem? g2
    cases hR
    cases n with
    | zero => simp [DataW.trod] at g3
    | succ n =>
      have g3 : DataW.trod enc P w base sp held (n + 1) t [.string b] = some (d, p) := g3
      have e1 := trod_strZ hu g3 rfl
      have := sized_string (j := j) hz (by rw [List.getElem?_append, if_pos hlt]; exact ht) (by rw [List.getElem?_append, if_pos hld, g2]; exact congrArg some e1)
      have e2 : b.data.toList.length = b.size := by rw [Array.length_toList]; rfl
      rwa [e2] at this
  intro j t e es ht hx hu
  obtain ⟨v, d, p, g1, g2, n, g3⟩ := trodAll_get hA ht
  have hR := hr j v _ g1 hx
  have hlt := lt_of_getElem? ht
  have hld := lt_of_getElem? g2
  have zero : es = [] → es.length * P.bytesOf e ≤ reachBytes := by
    intro h; subst h; simp
  have main : ∀ (a : Addr) (cap : Nat), v = .slice (some a) es.length cap → es.length * P.bytesOf e ≤ reachBytes := by
    intro a cap hv
    subst hv
    cases n with
    | zero => simp [DataW.trod] at g3
    | succ n =>
      have g3 : DataW.trod enc P w base sp held (n + 1) t [.slice (some a) es.length cap] = some (d, p) := g3
      obtain ⟨elems, spare, e1, e2⟩ := trod_len hu g3 rfl
      have := sized_slice (j := j) hz (by rw [List.getElem?_append, if_pos hlt]; exact ht) (by rw [List.getElem?_append, if_pos hld, g2]; exact congrArg some e1) hu
      rw [e2] at this
      exact Nat.le_trans (Nat.mul_le_mul_right _ (Nat.le_add_right _ _)) this
  generalize hq : es = q at *
  cases hR with
  | slnil _ h => exact zero rfl
  | slemp _ a cap h hf hm => exact zero rfl
  | sl _ b off cap k n' _ vals hn h hf hcn hm hsol hs hr' =>
    subst hn
    exact main _ _ rfl
end

/-- THE END OF A LAW, with the reach -/
theorem law_contract_sized {P : Program} {E : Env} (hG : Good DR P E) {L : List Nat} (hL : L.all (lvl E.T L) = true) (hlaid : laidOutB P = true) {f : FuncId} {fn : Func} (hb : ∃ tb, fn.resultTypes = #[tb] ∧ P.underlying tb = some .bool)
    (hp : ∀ t ∈ fn.params.toList, t ∈ L ∧ P.readableRec t = true ∧ t < P.types.size) {s : ChangeSpec} (hs : s.vars = []) (hfn : ∀ (H : Type) (ds : List (DataW H)), ds.length = fn.params.size → s.fn H (ds ++ []) = { results := [.lit (.bool true)], args := ds })
    {H : Type} {enc : TypeId × Value → H} {W : World} {base : Nat} {args : Array Value} {ds gs : List (DataW H)} {before : List MemPlace}
    (hrun : ∀ xs, TypedL E.T fn.params.toList xs → SizedL P fn.params.toList xs → ∃ n, runV P E n f xs = some (.bool true)) (hgl : Glob (there W) W)
    (hval : ∀ (j : Nat) t v, fn.params[j]? = some t → args[j]? = some v → Value.okWide P W .any base t v) (hW : DataW.Whole enc P fn.params.toList s.vars false W args.toList ds gs before)
    (hz : (DataW.weightsEach P (fn.params.toList ++ s.plain.varTypes P) (ds ++ gs)).all (· ≤ reachBytes) = true) :
    Calls P f args W fun e W' => ∃ v, e = .returned v ∧ s.post enc P fn false true false false W args v W' := by
  have hW' := hW
  obtain ⟨p, q, hA, hV, rfl, hfz, hnd⟩ := hW
  rw [hs] at hV
  obtain ⟨rfl, rfl⟩ := trodVars_none hV
  obtain ⟨xs, t1, t2, t3⟩ := args_of hG.types hL fn.params.toList args.toList ds p (fun t ht => (hp t ht).1) (fun j t v ht hv => hval j t v (by simpa using ht) (by simpa using hv)) hA
  obtain ⟨n, hr⟩ := hrun xs t1 (sized_of hA t3 hz)
  exact law_contract1 hG hlaid hb hp hs hfn hr hgl t2 t3 hW' hA
end Go.Abs
