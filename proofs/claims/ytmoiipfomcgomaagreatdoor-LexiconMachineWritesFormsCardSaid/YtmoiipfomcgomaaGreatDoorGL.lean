import Derived.Test.YtmoiipfomcgomaaGreatDoorAbsGw
import Derived.Test.YtmoiipfomcgomaaGreatDoorProg
import Derived.Shelf.Spec.SlicesGrow
import Derived.KernelRfl
namespace Go.Proofs
open Go.Shelf
set_option maxRecDepth 100000
def Tryz.grow_ren : Go.Shelf.Ren := ⟨fun | 4 => 74 | n => n, fun | 25 => 9 | 22 => 39 | n => n, fun | n => n⟩
theorem Tryz.grow_lays : Lays8.n4 Tryz.prog Tryz.grow_ren := {
 mixed := by kernel_rfl
 f4 := ⟨"slices.Grow[[]string,string]", by kernel_rfl, Tryz.func74.trans (congrArg some (by kernel_rfl))⟩
 t0 := Tryz.underlying0
 a0 := Tryz.isAgg0
 z0 := Tryz.sizeOf0
 v0 := Tryz.zeroValue0
 t3 := Tryz.underlying3
 a3 := Tryz.isAgg3
 z3 := Tryz.sizeOf3
 v3 := Tryz.zeroValue3
 t4 := Tryz.underlying4
 a4 := Tryz.isAgg4
 z4 := Tryz.sizeOf4
 v4 := Tryz.zeroValue4
 t9 := Tryz.underlying9
 a9 := Tryz.isAgg9
 z9 := Tryz.sizeOf9
 v9 := Tryz.zeroValue9
 t20 := Tryz.underlying20
 a20 := Tryz.isAgg20
 z20 := Tryz.sizeOf20
 v20 := Tryz.zeroValue20
 t22 := Tryz.underlying39
 a22 := Tryz.isAgg39
 z22 := Tryz.sizeOf39
 v22 := Tryz.zeroValue39 }
end Go.Proofs
namespace Go.Abs
open Go.Proofs
theorem grow74 (hI : Is Tryz.prog 74) : DOk False Tryz.prog 74 (growF 1 16) := by
 refine grow_sound (e := 9) hI (by decide) (.string ⟨#[]⟩) rfl (fun w => Any8.slices_Grow_room Tryz.grow_lays none 0 0 0 w (by omega) (by omega) (by omega) (by omega)) (fun n w h0 h1 h2 => ?_)
 have hh : (Tryz.prog.info? 9).map (fun i => (i.bytes, i.size, i.zero)) = some (16, 1, some (.string ⟨#[]⟩)) := by kernel_rfl
 obtain ⟨i0, hi0, he⟩ := Option.map_eq_some_iff.1 hh
 obtain ⟨hb, he⟩ := Prod.mk.inj he
 obtain ⟨hs, hz⟩ := Prod.mk.inj he
 have := Any8.slices_Grow_grow Tryz.grow_lays i0 (.string ⟨#[]⟩) hi0 hz (by omega) none 0 0 n [] w (Nat.le_refl _) (by omega) (by rw [Nat.zero_add, hb]; exact h1) (by omega) (by simp) (fun _ => rfl) (fun a h => by cases h)
 simp only [Nat.zero_add, Nat.sub_zero] at this
 have e : ([] : List Value).toArray = #[] := rfl
 rw [e, Array.empty_append] at this
 exact this
end Go.Abs
