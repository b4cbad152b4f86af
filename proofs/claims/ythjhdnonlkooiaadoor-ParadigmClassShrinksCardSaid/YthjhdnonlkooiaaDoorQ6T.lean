import Derived.Test.YthjhdnonlkooiaaDoorQ6
namespace Go.Abs
set_option linter.unusedVariables false
/-! ### tables, as the program makes them -/
theorem f34_eq (m : Nat) (p : S23) (base : ByteArray) (hm : 4001 < m) (hb : wordS base = true) (hl : p.fCells.length ≤ 40) (hc : ∀ c ∈ p.fCells, cellOk c) : f34 m p base = some (tabS p base) := by
  unfold f34
  have e : iter (fun (y : (List S41) × Int) => f34_B3 m p base y.1 y.2) m ([], 0) = landed (fun (s : List S41) (i : Int) => (s, i)) p.fCells.length (scan (appStep 40 (rowOf base)) 0 [] p.fCells) := by
    refine iter_scan p.fCells (fun (y : (List S41) × Int) => f34_B3 m p base y.1 y.2) (fun (s : List S41) (i : Int) => (s, i)) _ (fun s k hi => ?_) m 0 [] (by omega) (by omega)
    unfold f34_B3
    refine body_turn rfl fun x hx => ?_
    have hw : w64 ((k : Int) + 1) = (k : Int) + 1 := w64_id ⟨by omega, by omega⟩
    obtain ⟨h1, h2, h3⟩ := hc x (List.mem_of_getElem? hx)
    obtain ⟨r, hr, hr2⟩ := f62_eq m base x.fCut x.fAdd hb h2 h3
    rw [hr]
    simp only [bnd_some', f34_j2, f34_j1, hw, rowOf, appStep]
    cases hq : changeS base x.fCut x.fAdd with
    | none => rfl
    | some r' =>
      have := hr2 r' hq
      subst this
      simp only [Option.isSome_some, cnd_true, f63, Option.map_some]
      rw [app_some 16 [] x.fTags (by simp only [List.length_nil]; omega) (by simp only [List.length_nil]; omega)]
      simp only [bnd_some', List.nil_append]
      cases app 40 s [(⟨x.fTags, r'⟩ : S41)] <;> rfl
  rw [e, scan_app 40 (by omega) (rowOf base) p.fCells 0 [] (by simp only [List.length_nil]; omega)]
  simp [landed, tabS]
end Go.Abs
