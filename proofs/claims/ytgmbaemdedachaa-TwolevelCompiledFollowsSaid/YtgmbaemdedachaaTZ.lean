import Derived.Test.YtgmbaemdedachaaPM
import Derived.Test.YtgmbaemdedachaaVB
import Derived.Test.YtgmbaemdedachaaWF1
namespace Go.Abs
open Go.Sort Go.Proofs
set_option linter.unusedVariables false
set_option linter.unusedSimpArgs false
set_option linter.unnecessarySimpa false
set_option maxRecDepth 100000
set_option maxHeartbeats 2000000
variable {P : Program} {f : Nat} {r : V}
theorem Fn_det {E : Env} {n : Nat} {xs : List D} {r' : V} (h : Fn P E n f xs r) (g : Fn P E n f xs r') : r = r' := by
 obtain ⟨d, h1, a1, a2⟩ := h
 obtain ⟨d', h2, b1, b2⟩ := g
 rw [a1] at b1
 cases b1
 rw [a2] at b2
 exact zC b2
open Classical in
noncomputable def oraEv (P : Program) (E : Env) (f : Nat) : List V → Option V := fun xs => if h : ∃ r, ∃ n0 : Nat, ∀ n, n0 ≤ n → Fn P E n f (xs.map .v) r then some (Classical.choose h) else none
theorem oraEv_eq {E : Env} {xs : List V} {n0 : Nat} (h : ∀ n, n0 ≤ n → Fn P E n f (xs.map .v) r) : oraEv P E f xs = some r := by
 have hx : ∃ r, ∃ n0 : Nat, ∀ n, n0 ≤ n → Fn P E n f (xs.map .v) r := ⟨r, n0, h⟩
 unfold oraEv
 rw [dif_pos hx]
 obtain ⟨n1, h1⟩ := Classical.choose_spec hx
 rw [Fn_det (h1 (max n0 n1) (Nat.le_max_right ..)) (h (max n0 n1) (Nat.le_max_left ..))]
theorem oraEv_ok {DR : Prop} {E : Env} (hG : Good DR P E) (hIs : Is P f) : OraOk DR P f (oraEv P E f) := by
 refine ⟨hIs, fun vs r hF S w us hrel hs hg => ?_⟩
 unfold oraEv at hF
 split at hF
 case isFalse => cases hF
 rename_i hx
 cases hF
 obtain ⟨n1, h1⟩ := Classical.choose_spec hx
 obtain ⟨d, h', a1, a2⟩ := h1 n1 (zL _)
 exact (pureCalls hG a1 a2).2 S w us hrel hs hg
theorem isg13 : Is Proofs.Try.prog 13 := ⟨Proofs.Try.f13, Proofs.Try.func13, kr, kr⟩
theorem isg17 : Is Proofs.Try.prog 17 := ⟨Proofs.Try.f17, Proofs.Try.func17, kr, kr⟩
theorem isg19 : Is Proofs.Try.prog 19 := ⟨Proofs.Try.f19, Proofs.Try.func19, kr, kr⟩
theorem map_inj {α β : Type} {f : α → β} (hf : ∀ a b, f a = f b → a = b) : ∀ {l l' : List α}, l.map f = l'.map f → l = l'
 | [], [], _ => rfl
 | [], _ :: _, h => by cases h
 | _ :: _, [], h => by cases h
 | a :: l, b :: l', h => by
  rw [List.map_cons, List.map_cons] at h
  injection h with h1 h2
  rw [hf a b h1, map_inj hf h2]
theorem e48_inj (a b : S48) (h : e48 a = e48 b) : a = b := by
 cases a; cases b
 unfold e48 at h
 simp at h
 rw [h.1, h.2]
theorem e72_inj (a b : S72) (h : e72 a = e72 b) : a = b := by
 cases a; cases b
 unfold e72 at h
 simp at h
 obtain ⟨h1, h2, h3, h4⟩ := h
 rw [map_inj e48_inj h1, map_inj e48_inj h2, h3, h4]
theorem e57_inj (a b : S57) (h : e57 a = e57 b) : a = b := by
 obtain ⟨k, ⟨l, s⟩, c⟩ := a
 obtain ⟨k', ⟨l', s'⟩, c'⟩ := b
 unfold e57 at h
 simp at h
 obtain ⟨h1, h2, h3, h4⟩ := h
 rw [h1, h2, h3, map_inj e72_inj h4]
open Classical in
noncomputable def F7 : List V → Option V := fun vs => if h : ∃ x : (List S57 × List S48) × (S27 × S29), vs = [eL e57 x.1.1, eL e48 x.1.2] ∧ Ty.f7c 10000000 x.1.1 x.1.2 = some x.2 then some (.tuple [e27 (Classical.choose h).2.1, e29 (Classical.choose h).2.2]) else none
theorem F7_eq {rules : List S57} {ps : List S48} {o : S27 × S29} (h : Ty.f7c 10000000 rules ps = some o) : F7 [eL e57 rules, eL e48 ps] = some (.tuple [e27 o.1, e29 o.2]) := by
 have hx : ∃ x : (List S57 × List S48) × (S27 × S29), [eL e57 rules, eL e48 ps] = [eL e57 x.1.1, eL e48 x.1.2] ∧ Ty.f7c 10000000 x.1.1 x.1.2 = some x.2 := ⟨((rules, ps), o), rfl, h⟩
 unfold F7
 rw [dif_pos hx]
 obtain ⟨h1, h2⟩ := Classical.choose_spec hx
 generalize Classical.choose hx = x at h1 h2
 injection h1 with e1 e2
 injection e2 with e2 _
 unfold eL at e1 e2
 injection e1 with _ e1
 injection e2 with _ e2
 rw [← map_inj e57_inj e1, ← map_inj e48_inj e2, h] at h2
 cases h2
 rfl
theorem ora7 : OraOk False Proofs.Try.prog 7 F7 := by
 refine ⟨Ty.is7, fun vs r hF S w us hrel hs hg => ?_⟩
 unfold F7 at hF
 split at hF
 case isFalse => cases hF
 rename_i hx
 cases hF
 obtain ⟨h1, h2⟩ := Classical.choose_spec hx
 generalize Classical.choose hx = x at h1 h2
 subst h1
 refine (Ty.call7 10000000 Pl.rules_ru h2 S [] w us hrel (hinv_nil hs hg)).mono ?_
 rintro e w' ⟨d, h', v, S1, β1, ⟨rfl, rfl⟩, rfl, hE1, hI1, hR1⟩
 have hb : β1 = [] := List.eq_nil_of_length_eq_zero hI1.len
 subst hb
 exact ⟨v, S1, rfl, hE1, hI1, hR1.of_v⟩
noncomputable def oraG (f : Nat) : Option (List V → Option V) := match f with
 | 7 => some F7
 | 13 => some (oraEv Proofs.Try.prog E 13)
 | 17 => some (oraEv Proofs.Try.prog E 17)
 | 19 => some (oraEv Proofs.Try.prog E 19)
 | _ => none
noncomputable def EG : Env := { E with ora := oraG }
theorem EG_ok : OSound False Proofs.Try.prog EG := by
 intro f F h
 have h : oraG f = some F := h
 unfold oraG at h
 split at h
 ·cases h; exact ora7
 ·cases h; exact oraEv_ok good isg13
 ·cases h; exact oraEv_ok good isg17
 ·cases h; exact oraEv_ok good isg19
 ·cases h
theorem goodG : Good False Proofs.Try.prog EG := ⟨good.mixed, T_ok, names_ok, EG_ok, (fun f F h => by cases h)⟩
def f7 (m : Nat) (a0 : List S57) (a1 : List S48) : Option (S27 × S29) := Ty.f7c 10000000 a0 a1
theorem ok7 (m : Nat) (a0 : List S57) (a1 : List S48) (o : S27 × S29) (h : f7 m a0 a1 = some o) (n : Nat) (hn : m + 1 ≤ n) : Fn Proofs.Try.prog EG n 7 [.v (eL e57 a0), .v (eL e48 a1)] (.tuple [e27 o.1, e29 o.2]) := by
 obtain ⟨n, rfl⟩ : ∃ q, n = q + 1 := ⟨n - 1, om⟩
 exact ora_fn (F := F7) (xs := [eL e57 a0, eL e48 a1]) kr rfl rfl (F7_eq h) rfl
theorem ok13g (m : Nat) (a0 : S27) (a1 : (List S48)) (o : Bool) (h : f13 m a0 a1 = some o) (n : Nat) (hn : m + 1 ≤ n) : Fn Proofs.Try.prog EG n 13 [.v (e27 a0), .v ((eL e48) a1)] (eB o) := by
 obtain ⟨n, rfl⟩ : ∃ q, n = q + 1 := ⟨n - 1, om⟩
 exact ora_fn (F := oraEv Proofs.Try.prog E 13) (xs := [e27 a0, (eL e48) a1]) kr rfl rfl (oraEv_eq fun k hk => ok13 m a0 a1 o h k hk) rfl
theorem ok17g (m : Nat) (a0 a1 : S27) (o : Bool) (h : f17 m a0 a1 = some o) (n : Nat) (hn : m + 1 ≤ n) : Fn Proofs.Try.prog EG n 17 [.v (e27 a0), .v (e27 a1)] (eB o) := by
 obtain ⟨n, rfl⟩ : ∃ q, n = q + 1 := ⟨n - 1, om⟩
 exact ora_fn (F := oraEv Proofs.Try.prog E 17) (xs := [e27 a0, e27 a1]) kr rfl rfl (oraEv_eq fun k hk => ok17 m a0 a1 o h k hk) rfl
theorem ok19g (m : Nat) (a0 : (List S57)) (a1 : (List S48)) (o : (Bool × Int × S29)) (h : f19 m a0 a1 = some o) (n : Nat) (hn : m + 5 ≤ n) : Fn Proofs.Try.prog EG n 19 [.v ((eL e57) a0), .v ((eL e48) a1)] (.tuple [eB o.1, eI o.2.1, e29 o.2.2]) := by
 obtain ⟨n, rfl⟩ : ∃ q, n = q + 1 := ⟨n - 1, om⟩
 exact ora_fn (F := oraEv Proofs.Try.prog E 19) (xs := [(eL e57) a0, (eL e48) a1]) kr rfl rfl (oraEv_eq fun k hk => ok19 m a0 a1 o h k hk) rfl
end Go.Abs
