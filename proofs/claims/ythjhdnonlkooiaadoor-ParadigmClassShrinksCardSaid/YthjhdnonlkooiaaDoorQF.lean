import Derived.Test.YthjhdnonlkooiaaDoorQD
namespace Go.Abs
theorem plain8s (ps : List S23) (forms : List S41) (more : S41) (hw : forms.length ≤ maxLen) (hz : SizedL Proofs.Tryd.prog [43, 26, 42] [eL e23 ps, eL e41 forms, e41 more]) : f8 30000 ps forms more = some true := by
  have h : (forms.map e41).length * Proofs.Tryd.prog.bytesOf 42 ≤ reachBytes := hz 1 26 42 (forms.map e41) rfl rfl (by kernel_rfl)
  have hb : Proofs.Tryd.prog.bytesOf 42 = 40 := by kernel_rfl
  have hr : reachBytes = 140737488351232 := by kernel_rfl
  rw [hb, hr, List.length_map] at h
  exact plain8 ps forms more h (by unfold maxLen at hw; omega)
end Go.Abs
