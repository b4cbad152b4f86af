/-
  LEXICON: slices.Grow of a nil list of strings, by the shelf's contract.
-/
import Derived.Test.YthjhdnonlkooiaaDoorAbsGw
import Derived.Test.YthjhdnonlkooiaaDoorProg
import Derived.Shelf.Spec.SlicesGrow
import Derived.KernelRfl
namespace Go.Proofs
open Go.Shelf
set_option maxRecDepth 100000
def Tryd.grow_ren : Go.Shelf.Ren := ⟨fun | 4 => 87 | n => n, fun | 25 => 9 | 22 => 36 | n => n, fun | n => n⟩
theorem Tryd.grow_lays : Lays8.n4 Tryd.prog Tryd.grow_ren := {
  mixed := by kernel_rfl
  f4 := ⟨"slices.Grow[[]string,string]", by kernel_rfl, Tryd.func87.trans (congrArg some (by kernel_rfl))⟩
  t0 := Tryd.underlying0
  a0 := Tryd.isAgg0
  z0 := Tryd.sizeOf0
  v0 := Tryd.zeroValue0
  t3 := Tryd.underlying3
  a3 := Tryd.isAgg3
  z3 := Tryd.sizeOf3
  v3 := Tryd.zeroValue3
  t4 := Tryd.underlying4
  a4 := Tryd.isAgg4
  z4 := Tryd.sizeOf4
  v4 := Tryd.zeroValue4
  t9 := Tryd.underlying9
  a9 := Tryd.isAgg9
  z9 := Tryd.sizeOf9
  v9 := Tryd.zeroValue9
  t20 := Tryd.underlying20
  a20 := Tryd.isAgg20
  z20 := Tryd.sizeOf20
  v20 := Tryd.zeroValue20
  t22 := Tryd.underlying36
  a22 := Tryd.isAgg36
  z22 := Tryd.sizeOf36
  v22 := Tryd.zeroValue36 }
end Go.Proofs
namespace Go.Abs
open Go.Proofs
theorem grow87 (hI : Is Tryd.prog 87) : DOk False Tryd.prog 87 (growF 1 16) := by
  refine grow_sound (e := 9) hI (by decide) (.string ⟨#[]⟩) rfl (fun w => Any8.slices_Grow_room Tryd.grow_lays none 0 0 0 w (by omega) (by omega) (by omega) (by omega)) (fun n w h0 h1 h2 => ?_)
  have hh : (Tryd.prog.info? 9).map (fun i => (i.bytes, i.size, i.zero)) = some (16, 1, some (.string ⟨#[]⟩)) := by kernel_rfl
  obtain ⟨i0, hi0, he⟩ := Option.map_eq_some_iff.1 hh
  obtain ⟨hb, he⟩ := Prod.mk.inj he
  obtain ⟨hs, hz⟩ := Prod.mk.inj he
  have := Any8.slices_Grow_grow Tryd.grow_lays i0 (.string ⟨#[]⟩) hi0 hz (by omega) none 0 0 n [] w (Nat.le_refl _) (by omega) (by rw [Nat.zero_add, hb]; exact h1) (by omega) (by simp) (fun _ => rfl) (fun a h => by cases h)
  simp only [Nat.zero_add, Nat.sub_zero] at this
  have e : ([] : List Value).toArray = #[] := rfl
  rw [e, Array.empty_append] at this
  exact this
end Go.Abs
