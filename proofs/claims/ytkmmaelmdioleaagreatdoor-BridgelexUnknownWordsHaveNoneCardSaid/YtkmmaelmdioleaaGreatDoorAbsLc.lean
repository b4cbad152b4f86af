import Derived.Test.YtkmmaelmdioleaaGreatDoorAbsW
namespace Go.Abs
set_option linter.unusedVariables false
set_option linter.unusedSimpArgs false
set_option linter.unnecessarySimpa false
def BackP (r : V) (cs' : List D) (d : D) (h1 : List AObj) : Prop := h1[0]? = some (.cells cs') ∧ cs'.all D.isV = true ∧ frz (unlent 1 h1) 6 d = some r
def FnP (P : Program) (E : Env) (n f : Nat) (cs : List D) (xs : List D) (r : V) (cs' : List D) : Prop := ∃ d h', run P E n f (.ptr 0 0 :: xs) [.cells cs] = some (d, h') ∧ BackP r cs' d h'
def RetOkP (X : Cx) (rs : List ResultVar) (r : V) (cs' : List D) (σ : St) : Prop := ∃ d, resultsD X.E.T σ rs = some d ∧ BackP r cs' d σ.heap
def fnQP (T : Nat → Option TI) (rs : List ResultVar) (r : V) (cs' : List D) : Post := fun e σ => (e = .normal ∨ e = .ret) ∧ ∃ d, resultsD T σ rs = some d ∧ BackP r cs' d σ.heap
theorem fnQP.r' {α β : Type} (X : Cx) {rs : List ResultVar} {a o : α × β} (enc : α → V) (enc2 : β → List D) {σ : St} (e : some a = some o) (h : RetOkP X rs (enc a.1) (enc2 a.2) σ) : fnQP X.E.T rs (enc o.1) (enc2 o.2) .ret σ := by cases e; exact ⟨.inr rfl, h⟩
theorem fnQP.n' {α β : Type} (X : Cx) {rs : List ResultVar} {a o : α × β} (enc : α → V) (enc2 : β → List D) {σ : St} (e : some a = some o) (h : RetOkP X rs (enc a.1) (enc2 a.2) σ) : fnQP X.E.T rs (enc o.1) (enc2 o.2) .normal σ := by cases e; exact ⟨.inl rfl, h⟩
theorem fnQP.r1 {α : Type} (X : Cx) {rs : List ResultVar} {a o : α} (enc : α → V) (cs' : List D) {σ : St} (e : some a = some o) (h : RetOkP X rs (enc a) cs' σ) : fnQP X.E.T rs (enc o) cs' .ret σ := by cases e; exact ⟨.inr rfl, h⟩
theorem fnQP.n1 {α : Type} (X : Cx) {rs : List ResultVar} {a o : α} (enc : α → V) (cs' : List D) {σ : St} (e : some a = some o) (h : RetOkP X rs (enc a) cs' σ) : fnQP X.E.T rs (enc o) cs' .normal σ := by cases e; exact ⟨.inl rfl, h⟩
theorem RetOkP.mk' {X : Cx} {rs : List ResultVar} {r : V} {cs' : List D} {σ : St} (d : D) (h1 : resultsD X.E.T σ rs = some d) (h2 : σ.heap[0]? = some (.cells cs')) (h3 : cs'.all D.isV = true) (h4 : frz (unlent 1 σ.heap) 6 d = some r) : RetOkP X rs r cs' σ := ⟨d, h1, h2, h3, h4⟩
theorem RetOkP.forget {X : Cx} {rs : List ResultVar} {r : V} {cs' : List D} {σ : St} (ks : List Nat) (hk : resIn ks rs = true) (h : RetOkP X rs r cs' σ) : RetOkP X rs r cs' (Abs.forget ks σ) := by
 obtain ⟨d, h1, h2⟩ := h
 refine ⟨d, ?_, h2⟩
 unfold resultsD at h1 ⊢
 rw [resultD_forget _ ks σ rs hk]
 exact h1
def startH (P : Program) (f : Nat) (ds : List D) (h : List AObj) : St := match P.funcs[f]? with
 | some fn => ⟨ds ++ List.replicate (fn.ntmps - ds.length) U, h⟩
 | none => ⟨[], []⟩
theorem FnH.of0 {P : Program} {E : Env} {n f : Nat} {xs : List D} {h0 : List AObj} {p : D → List AObj → Prop} (hora : E.ora f = none) (horaD : E.oraD f = none) (hb : hasBody P f = true) (σ0 : St) (hσ : startH P f xs h0 = σ0)
  (h : Wp (cxOf P E f n) (bodyOf P f) σ0 (fun e σ => (e = .normal ∨ e = .ret) ∧ ∃ d, resultsD E.T σ (resOf P f) = some d ∧ p d σ.heap)) : ∃ d h', run P E (n + 1) f xs h0 = some (d, h') ∧ p d h' := by
 subst hσ
 obtain ⟨e, σ, h1, h2, d, h3, h4⟩ := h
 refine ⟨d, σ.heap, ?_, h4⟩
 unfold hasBody at hb
 unfold resOf at h3
 have h3 : resultsD E.T σ _ = some d := h3
 unfold startH bodyOf cxOf at h1
 unfold run
 split at hb
 ·rename_i fn hfn
  obtain ⟨c, hc⟩ := Option.isSome_iff_exists.1 hb
  simp only [hfn, hc] at h1 h3
  simp only [hfn, hora, horaD, hc, h1]
  rcases h2 with rfl | rfl
  ·simp only [h3, Option.map_some]
  ·simp only [h3, Option.map_some]
 ·cases hb
theorem FnP.of {P : Program} {E : Env} {n f : Nat} {cs xs : List D} {r : V} {cs' : List D} (hora : E.ora f = none) (horaD : E.oraD f = none) (hb : hasBody P f = true) (σ0 : St) (hσ : startH P f (.ptr 0 0 :: xs) [.cells cs] = σ0)
  (h : Wp (cxOf P E f n) (bodyOf P f) σ0 (fnQP (cxOf P E f n).E.T (resOf P f) r cs')) : FnP P E (n + 1) f cs xs r cs' := FnH.of0 (p := BackP r cs') hora horaD hb σ0 hσ h
theorem Args.lend {h : List AObj} {ds xs : List D} (ha : Args h ds xs) {toks : List Nat} {refs : List (Option Nat)} : ∀ {i : Nat}, (∀ j, i ≤ j → toks.contains j = false) → lendA toks h i refs ds = some (xs, refs) := by
 induction ha with
 | nil => intro i _; rfl
 | v x y e hr ih =>
  intro i hi
  have ih' := ih (i := i + 1) (fun j hj => hi j (by omega))
  subst e
  simp only [lendA, hi i (Nat.le_refl _), lendArg, Bool.false_eq_true, if_false, ih']
 | @app g q es _ _ hr ih =>
  intro i hi
  have ih' := ih (i := i + 1) (fun j hj => hi j (by omega))
  cases es <;> simp only [lendA, hi i (Nat.le_refl _), appF, lendArg, plainT, plainV, Bool.false_eq_true, if_false, ih']
 | ag g q es hr ih =>
  intro i hi
  have ih' := ih (i := i + 1) (fun j hj => hi j (by omega))
  cases g <;> simp only [lendA, hi i (Nat.le_refl _), AG.d, lendArg, plainT, plainV, Bool.false_eq_true, if_false, ih']
 | ar g q es hr ih =>
  intro i hi
  have ih' := ih (i := i + 1) (fun j hj => hi j (by omega))
  cases g with
  | ag g => cases g <;> simp only [lendA, hi i (Nat.le_refl _), AR.d, AG.d, lendArg, plainT, plainV, Bool.false_eq_true, if_false, ih']
  | fl f => simp only [lendA, hi i (Nat.le_refl _), AR.d, lendArg, plainT, plainV, Bool.false_eq_true, if_false, ih']
 | vp cs hr ih =>
  intro i hi
  have ih' := ih (i := i + 1) (fun j hj => hi j (by omega))
  simp only [lendA, lendArg, ih']
theorem len_of_get {α : Type} {l : List α} {x : α} (h : l[0]? = some x) : 1 ≤ l.length := by cases l with
 | nil => cases h
 | cons _ _ => simp
theorem call_ptr {P : Program} {E E' : Env} {n f q : Nat} {h : List AObj} {cs cs' ds xs : List D} {r : V} (hp : E'.pureF f = false) (ho : E'.ownR f = none) (hl : E'.lend f = some {}) (hq : h[q]? = some (.cells cs)) (hall : cs.all D.isV = true)
  (ha : Args h ds xs) (hF : FnP P E n f cs xs r cs') : callD E' (run P E n) f (.ptr q 0 :: ds) h = some (.v r, h.set q (.cells cs')) := by
 obtain ⟨d, h1, g1, g2, g3, g4⟩ := hF
 have hA : lendA [] h 0 [] (.ptr q 0 :: ds) = some (.ptr 0 0 :: xs, [some q]) := by
  simp only [lendA, lendArg, hq, hall, List.contains_nil, Bool.not_false, Bool.and_self, if_true, List.nil_append, List.length_nil, ha.lend (toks := []) (fun _ _ => rfl)]
 have hO : [some q].map (lentObj h) = [.cells cs] := by simp [lentObj, List.getD, hq]
 simp only [callD, hp, Bool.false_eq_true, if_false, ho, hl, lendD, hA, hO, g1, lendBack, hq, g2, g3, if_true]
 have : List.length [some q] ≤ h1.length := len_of_get g2
 rw [if_pos this]
 simp only [lendRes, List.length_singleton, g4, Option.map_some]
def BackT (s : Nat) (l : List V) (d : D) (h1 : List AObj) : Prop := ∃ q, d = appD q l ∧ h1[q]? = some (appO s l) ∧ 1 ≤ h1.length
def FnT (P : Program) (E : Env) (n f s : Nat) (l : List V) (xs : List D) (l' : List V) : Prop := ∃ d h', run P E n f (appD 0 l :: xs) [appO s l] = some (d, h') ∧ BackT s l' d h'
def RetOkT (X : Cx) (rs : List ResultVar) (s : Nat) (l : List V) (σ : St) : Prop := ∃ d, resultsD X.E.T σ rs = some d ∧ BackT s l d σ.heap
def fnQT (T : Nat → Option TI) (rs : List ResultVar) (s : Nat) (l : List V) : Post := fun e σ => (e = .normal ∨ e = .ret) ∧ ∃ d, resultsD T σ rs = some d ∧ BackT s l d σ.heap
theorem fnQT.r' {α : Type} (X : Cx) {rs : List ResultVar} {s : Nat} {a o : List α} (enc : α → V) {σ : St} (e : some a = some o) (h : RetOkT X rs s (a.map enc) σ) : fnQT X.E.T rs s (o.map enc) .ret σ := by cases e; exact ⟨.inr rfl, h⟩
theorem fnQT.n' {α : Type} (X : Cx) {rs : List ResultVar} {s : Nat} {a o : List α} (enc : α → V) {σ : St} (e : some a = some o) (h : RetOkT X rs s (a.map enc) σ) : fnQT X.E.T rs s (o.map enc) .normal σ := by cases e; exact ⟨.inl rfl, h⟩
theorem RetOkT.mk' {X : Cx} {rs : List ResultVar} {s : Nat} {l : List V} {σ : St} (q : Nat) (h1 : resultsD X.E.T σ rs = some (appD q l)) (h2 : σ.heap[q]? = some (appO s l)) : RetOkT X rs s l σ := ⟨_, h1, q, rfl, h2, by cases hh : σ.heap with
 | nil => rw [hh] at h2; simp at h2
 | cons _ _ => simp⟩
theorem RetOkT.forget {X : Cx} {rs : List ResultVar} {s : Nat} {l : List V} {σ : St} (ks : List Nat) (hk : resIn ks rs = true) (h : RetOkT X rs s l σ) : RetOkT X rs s l (Abs.forget ks σ) := by
 obtain ⟨d, h1, h2⟩ := h
 refine ⟨d, ?_, h2⟩
 unfold resultsD at h1 ⊢
 rw [resultD_forget _ ks σ rs hk]
 exact h1
theorem FnT.of {P : Program} {E : Env} {n f s : Nat} {l : List V} {xs : List D} {l' : List V} (hora : E.ora f = none) (horaD : E.oraD f = none) (hb : hasBody P f = true) (σ0 : St) (hσ : startH P f (appD 0 l :: xs) [appO s l] = σ0)
  (h : Wp (cxOf P E f n) (bodyOf P f) σ0 (fnQT (cxOf P E f n).E.T (resOf P f) s l')) : FnT P E (n + 1) f s l xs l' := FnH.of0 (p := BackT s l') hora horaD hb σ0 hσ h
end Go.Abs
