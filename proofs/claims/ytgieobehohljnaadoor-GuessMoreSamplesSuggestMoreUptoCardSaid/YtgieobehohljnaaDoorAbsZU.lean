/-
  THE ABSTRACT LAYER, 18u: the end of a law in its second form (what is read is of bulk at most 1048576).
-/
import Derived.Test.YtgieobehohljnaaDoorAbsZ
import Derived.Test.YtgieobehohljnaaDoorRows
namespace Go.Abs
open Go.ChangeShapes Go.WideShapes Go.ChangeAt Go.RowKit
open Go.Proofs.YtgieobehohljnaaDoor
set_option linter.unusedVariables false
variable {DR : Prop}

/-- no argument that is a list or a string is longer than the bound -/
def UptoL (P : Program) (ts : List Nat) (xs : List V) : Prop := (∀ (j : Nat) t e es, ts[j]? = some t → xs[j]? = some (.sl .plain es) → P.underlying t = some (.slice e) → es.length ≤ 1048576) ∧
  ∀ (j : Nat) t b, ts[j]? = some t → xs[j]? = some (.str b) → P.underlying t = some .string → b.size ≤ 1048576

section
variable {H : Type} {enc : TypeId × Value → H} {P : Program} {w : World} {base : Nat} {sp : Nat → Bool} {held : Bool}
theorem bulk_one (d : DataW H) : 1 ≤ Rows.uptoBulk d := by
  cases d with
  | lit l => cases l <;> simp [Rows.uptoBulk]
  | nil => simp [Rows.uptoBulk]
  | ptr d => simp [Rows.uptoBulk]
  | slice elems spare => simp [Rows.uptoBulk]
  | agg parts => simp [Rows.uptoBulk]
  | iface t d => simp [Rows.uptoBulk]
  | map entries => simp [Rows.uptoBulk]
  | held h => simp [Rows.uptoBulk]
theorem bulk_part {d : DataW H} {l : List (DataW H)} (h : d ∈ l) : Rows.uptoBulk d ≤ Rows.uptoBulkAll l := by
  induction l with
  | nil => cases h
  | cons x r ih =>
    simp only [Rows.uptoBulkAll]
    cases List.mem_cons.1 h with
    | inl e => subst e; omega
    | inr e => have := ih e; omega
theorem bulk_length (l : List (DataW H)) : l.length ≤ Rows.uptoBulkAll l := by
  induction l with
  | nil => simp [Rows.uptoBulkAll]
  | cons x r ih => have := bulk_one x; simp only [Rows.uptoBulkAll, List.length_cons]; omega
theorem upto_of {ts : List Nat} {vs : List Value} {ds gs : List (DataW H)} {ps : List MemPlace} {xs : List V} (hA : DataW.TrodAll enc P w base sp held ts vs ds ps) (hr : ∀ (i : Nat) v x, vs[i]? = some v → xs[i]? = some x → RelV (there w) w v x)
    (hz : Rows.uptoSmall H (ds ++ gs) = true) : UptoL P ts xs := by
  have hz : Rows.uptoBulkAll (ds ++ gs) ≤ 1048576 := of_decide_eq_true hz
  refine ⟨?_, fun j t b ht hx hu => ?_⟩
  case refine_2 =>
    obtain ⟨v, d, p, g1, g2, n, g3⟩ := trodAll_get hA ht
    have hR := hr j v _ g1 hx
    cases hR
    cases n with
    | zero => simp [DataW.trod] at g3
    | succ n =>
      have g3 : DataW.trod enc P w base sp held (n + 1) t [.string b] = some (d, p) := g3
      have e1 : d = .lit (.string b.data.toList) := trod_strZ hu g3 rfl
      have h1 := bulk_part (List.mem_append_left gs (List.mem_of_getElem? g2))
      rw [e1] at h1
      simp only [Rows.uptoBulk] at h1
      have e2 : b.data.toList.length = b.size := by rw [Array.length_toList]; rfl
      omega
  intro j t e es ht hx hu
  obtain ⟨v, d, p, g1, g2, n, g3⟩ := trodAll_get hA ht
  have hR := hr j v _ g1 hx
  have main : ∀ (a : Addr) (cap : Nat), v = .slice (some a) es.length cap → es.length ≤ 1048576 := by
    intro a cap hv
    subst hv
    cases n with
    | zero => simp [DataW.trod] at g3
    | succ n =>
      have g3 : DataW.trod enc P w base sp held (n + 1) t [.slice (some a) es.length cap] = some (d, p) := g3
      obtain ⟨elems, spare, e1, e2⟩ := trod_len hu g3 rfl
      have e1 : d = .slice elems spare := e1
      have h1 := bulk_part (List.mem_append_left gs (List.mem_of_getElem? g2))
      rw [e1] at h1
      simp only [Rows.uptoBulk] at h1
      have h2 := bulk_length elems
      omega
  generalize hq : es = q at *
  cases hR with
  | slnil _ h => exact Nat.zero_le _
  | slemp _ a cap h hf hm => exact Nat.zero_le _
  | sl _ b off cap k n' _ vals hn h hf hcn hm hsol hs hr' =>
    subst hn
    exact main _ _ rfl
end

/-- THE END OF A LAW, second form -/
theorem law_contract_upto {P : Program} {E : Env} (hG : Good DR P E) {L : List Nat} (hL : L.all (lvl E.T L) = true) (hlaid : laidOutB P = true) {f : FuncId} {fn : Func} (hb : ∃ tb, fn.resultTypes = #[tb] ∧ P.underlying tb = some .bool)
    (hp : ∀ t ∈ fn.params.toList, t ∈ L ∧ P.readableRec t = true ∧ t < P.types.size) {s : ChangeSpec} (hs : s.vars = []) (hfn : ∀ (H : Type) (ds : List (DataW H)), ds.length = fn.params.size → s.fn H (ds ++ []) = { results := [.lit (.bool true)], args := ds })
    {H : Type} {enc : TypeId × Value → H} {W : World} {base : Nat} {args : Array Value} {ds gs : List (DataW H)} {before : List MemPlace}
    (hrun : ∀ xs, TypedL E.T fn.params.toList xs → UptoL P fn.params.toList xs → ∃ n, runV P E n f xs = some (.bool true)) (hgl : Glob (there W) W)
    (hval : ∀ (j : Nat) t v, fn.params[j]? = some t → args[j]? = some v → Value.okWide P W .any base t v) (hW : DataW.Whole enc P fn.params.toList s.vars false W args.toList ds gs before)
    (hz : Rows.uptoSmall H (ds ++ gs) = true) :
    Calls P f args W fun e W' => ∃ v, e = .returned v ∧ s.post enc P fn false true false false W args v W' := by
  have hW' := hW
  obtain ⟨p, q, hA, hV, rfl, hfz, hnd⟩ := hW
  rw [hs] at hV
  obtain ⟨rfl, rfl⟩ := trodVars_none hV
  obtain ⟨xs, t1, t2, t3⟩ := args_of hG.types hL fn.params.toList args.toList ds p (fun t ht => (hp t ht).1) (fun j t v ht hv => hval j t v (by simpa using ht) (by simpa using hv)) hA
  obtain ⟨n, hr⟩ := hrun xs t1 (upto_of hA t3 hz)
  exact law_contract1 hG hlaid hb hp hs hfn hr hgl t2 t3 hW' hA
end Go.Abs
