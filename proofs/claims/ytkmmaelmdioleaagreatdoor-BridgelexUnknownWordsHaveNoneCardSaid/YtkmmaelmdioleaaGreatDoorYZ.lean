import Derived.Test.YtkmmaelmdioleaaGreatDoorYR
import Derived.Test.YtkmmaelmdioleaaGreatDoorUV
namespace Go.Abs
open Go.Sort Go.Proofs
set_option linter.unusedVariables false
set_option linter.unusedSimpArgs false
set_option linter.unnecessarySimpa false
set_option maxRecDepth 100000
set_option maxHeartbeats 2000000
noncomputable def oraG (f : Nat) : Option (List V → Option V) := match f with
 | 4 => some trueF
 | 16 => some Rs.F16
 | 13 => some (oraEv Proofs.Tryz.prog E 13)
 | 14 => some (oraEv Proofs.Tryz.prog E 14)
 | 15 => some (oraEv Proofs.Tryz.prog E 15)
 | 6 => some (oraEv Proofs.Tryz.prog E 6)
 | 7 => some (oraEv Proofs.Tryz.prog E 7)
 | f => oraT f
noncomputable def EG : Env := { E with ora := oraG, pureF := fun f => f == 39 || E.pureF f }
theorem oraG_ok : OSound False Proofs.Tryz.prog EG := by
 intro f F h
 have h : oraG f = some F := h
 unfold oraG at h
 split at h
 ·cases h; exact Uv.ora4
 ·cases h; exact Rs.ora16
 ·cases h; exact oraEv_ok good isg13
 ·cases h; exact oraEv_ok good isg14
 ·cases h; exact oraEv_ok good isg15
 ·cases h; exact oraEv_ok good isg6
 ·cases h; exact oraEv_ok good isg7
 ·exact ora_ok f F h
theorem goodG : Good False Proofs.Tryz.prog EG := ⟨good.mixed, T_ok, names_ok, oraG_ok, (fun f F h => by cases h)⟩
theorem ok13g (m : Nat) (a0 : Int) (a1 : Int) (o : S26) (h : f13 m a0 a1 = some o) (n : Nat) (hn : m + 1 ≤ n) : Fn Proofs.Tryz.prog EG n 13 [.v (eI a0), .v (eI a1)] (e26 o) := by
 obtain ⟨n, rfl⟩ : ∃ q, n = q + 1 := ⟨n - 1, by omega⟩
 exact ora_fn (F := oraEv Proofs.Tryz.prog E 13) (xs := [eI a0, eI a1]) (by kernel_rfl) rfl rfl (oraEv_eq fun k hk => ok13 m a0 a1 o h k hk) rfl
theorem ok14g (m : Nat) (a0 : ByteArray) (o : Bool) (h : f14 m a0 = some o) (n : Nat) (hn : m + 3 ≤ n) : Fn Proofs.Tryz.prog EG n 14 [.v (eS a0)] (eB o) := by
 obtain ⟨n, rfl⟩ : ∃ q, n = q + 1 := ⟨n - 1, by omega⟩
 exact ora_fn (F := oraEv Proofs.Tryz.prog E 14) (xs := [eS a0]) (by kernel_rfl) rfl rfl (oraEv_eq fun k hk => ok14 m a0 o h k hk) rfl
theorem ok15g (m : Nat) (a0 : S56) (o : Int) (h : f15 m a0 = some o) (n : Nat) (hn : 3 * m + 4 ≤ n) : Fn Proofs.Tryz.prog EG n 15 [.v (e56 a0)] (eI o) := by
 obtain ⟨n, rfl⟩ : ∃ q, n = q + 1 := ⟨n - 1, by omega⟩
 exact ora_fn (F := oraEv Proofs.Tryz.prog E 15) (xs := [e56 a0]) (by kernel_rfl) rfl rfl (oraEv_eq fun k hk => ok15 m a0 o h k hk) rfl
theorem ok6g (m : Nat) (a0 : (List ByteArray)) (o : S26) (h : f6 m a0 = some o) (n : Nat) (hn : m + 5 ≤ n) : Fn Proofs.Tryz.prog EG n 6 [.v ((eL eS) a0)] (e26 o) := by
 obtain ⟨n, rfl⟩ : ∃ q, n = q + 1 := ⟨n - 1, by omega⟩
 exact ora_fn (F := oraEv Proofs.Tryz.prog E 6) (xs := [(eL eS) a0]) (by kernel_rfl) rfl rfl (oraEv_eq fun k hk => ok6 m a0 o h k hk) rfl
theorem ok7g (m : Nat) (a0 : (List S56)) (o : S26) (h : f7 m a0 = some o) (n : Nat) (hn : 3 * m + 3 ≤ n) : Fn Proofs.Tryz.prog EG n 7 [.v ((eL e56) a0)] (e26 o) := by
 obtain ⟨n, rfl⟩ : ∃ q, n = q + 1 := ⟨n - 1, by omega⟩
 exact ora_fn (F := oraEv Proofs.Tryz.prog E 7) (xs := [(eL e56) a0]) (by kernel_rfl) rfl rfl (oraEv_eq fun k hk => ok7 m a0 o h k hk) rfl
def f4 (m : Nat) : Option Bool := some true
theorem ok4 (m : Nat) (o : Bool) (h : f4 m = some o) (n : Nat) (hn : m + 1 ≤ n) : Fn Proofs.Tryz.prog EG n 4 [] (eB o) := by
 obtain ⟨n, rfl⟩ : ∃ q, n = q + 1 := ⟨n - 1, by omega⟩
 cases h
 exact ora_fn (F := trueF) (xs := []) (by kernel_rfl) rfl rfl rfl rfl
noncomputable def f16 (m : Nat) (a0 : S34) (a1 : ByteArray) : Option (List S71 × S26) := Rs.f16L a0 a1
theorem ok16 (m : Nat) (a0 : S34) (a1 : ByteArray) (o : ((List S71) × S26)) (h : f16 m a0 a1 = some o) (n : Nat) (hn : m + 1 ≤ n) : Fn Proofs.Tryz.prog EG n 16 [.v (e34 a0), .v (eS a1)] (.tuple [(eL e71) o.1, e26 o.2]) := by
 obtain ⟨n, rfl⟩ : ∃ q, n = q + 1 := ⟨n - 1, by omega⟩
 refine ora_fn (F := Rs.F16) (xs := [e34 a0, eS a1]) (by kernel_rfl) rfl rfl ?_ rfl
 have h : Rs.f16L a0 a1 = some o := h
 exact Rs.F16_eq h
end Go.Abs
