import Derived.Test.YtmoiipfomcgomaaGreatDoorAbsW
namespace Go.Abs
set_option linter.unusedVariables false
def KeepIs (s : Nat) (l : List V) (r : V) (d : D) (h' : List AObj) : Prop := ∀ h, ownKeep 0 d h' h = some (.tuple [appD h.length l, .v r], h ++ [appO s l])
def FnK (P : Program) (E : Env) (n f : Nat) (xs : List D) (s : Nat) (l : List V) (r : V) : Prop := ∃ d h', run P E n f xs [] = some (d, h') ∧ KeepIs s l r d h'
def RetOkK (X : Cx) (rs : List ResultVar) (s : Nat) (l : List V) (r : V) (σ : St) : Prop := ∃ d, resultsD X.E.T σ rs = some d ∧ KeepIs s l r d σ.heap
def fnQK (T : Nat → Option TI) (rs : List ResultVar) (s : Nat) (l : List V) (r : V) : Post := fun e σ => (e = .normal ∨ e = .ret) ∧ ∃ d, resultsD T σ rs = some d ∧ KeepIs s l r d σ.heap
theorem fnQK.r' {α β : Type} (X : Cx) {rs : List ResultVar} {s : Nat} {a o : List α × β} (enc : α → V) (enc2 : β → V) {σ : St} (e : some a = some o) (h : RetOkK X rs s (a.1.map enc) (enc2 a.2) σ) : fnQK X.E.T rs s (o.1.map enc) (enc2 o.2) .ret σ := by cases e; exact ⟨.inr rfl, h⟩
theorem fnQK.n' {α β : Type} (X : Cx) {rs : List ResultVar} {s : Nat} {a o : List α × β} (enc : α → V) (enc2 : β → V) {σ : St} (e : some a = some o) (h : RetOkK X rs s (a.1.map enc) (enc2 a.2) σ) : fnQK X.E.T rs s (o.1.map enc) (enc2 o.2) .normal σ := by cases e; exact ⟨.inl rfl, h⟩
theorem FnK.of {P : Program} {E : Env} {n f : Nat} {xs : List D} {s : Nat} {l : List V} {r : V} (hora : E.ora f = none) (horaD : E.oraD f = none) (hb : hasBody P f = true) (σ0 : St) (hσ : startOf P f xs = σ0)
  (h : Wp (cxOf P E f n) (bodyOf P f) σ0 (fnQK (cxOf P E f n).E.T (resOf P f) s l r)) : FnK P E (n + 1) f xs s l r := Fn.of0 (p := KeepIs s l r) hora horaD hb σ0 hσ h
theorem RetOkK.forget {X : Cx} {rs : List ResultVar} {s : Nat} {l : List V} {r : V} {σ : St} (ks : List Nat) (hk : resIn ks rs = true) (h : RetOkK X rs s l r σ) : RetOkK X rs s l r (Abs.forget ks σ) := by
 obtain ⟨d, h1, h2⟩ := h
 refine ⟨d, ?_, h2⟩
 unfold resultsD at h1 ⊢
 rw [resultD_forget _ ks σ rs hk]
 exact h1
theorem RetOkK.app {X : Cx} {rs : List ResultVar} {s : Nat} {σ : St} (q : Nat) (l : List V) (r : V) (h1 : resultsD X.E.T σ rs = some (mkTuple [appD q l, .v r])) (hq : σ.heap[q]? = some (appO s l)) : RetOkK X rs s l r σ := by
 refine ⟨_, h1, fun h => ?_⟩
 cases l with
 | nil => rfl
 | cons x t =>
  have e : mkTuple [appD q (x :: t), .v r] = .tuple [.tsl q (x :: t), .v r] := rfl
  have hq : σ.heap[q]? = some (.tok s (x :: t).length) := hq
  rw [e]
  simp only [ownKeep, List.getElem?_cons_zero, hq]
  rfl
theorem RetOkK.nil {X : Cx} {rs : List ResultVar} {s : Nat} {σ : St} (r : V) (h1 : resultsD X.E.T σ rs = some (.v (.tuple [.sl .nil [], r]))) : RetOkK X rs s [] r σ := ⟨_, h1, fun h => rfl⟩
theorem call_keep {P : Program} {E E' : Env} {n f s : Nat} {h : List AObj} {ds xs : List D} {l : List V} {r : V} (hp : E'.pureF f = false) (ho : E'.ownR f = some 0) (hf : ds.all D.freed = true) (ha : ArgsC h ds xs) (hF : FnK P E n f xs s l r) :
  callD E' (run P E n) f ds h = some (.tuple [appD h.length l, .v r], h ++ [appO s l]) := by
 obtain ⟨d, h', h1, h2⟩ := hF
 simp only [callD, hp, Bool.false_eq_true, if_false, ho, hf, if_true, ha.spec, h1]
 exact h2 h
end Go.Abs
