import Derived.Test.YtbeegandhppniaaAbsHC
namespace Go.Abs
set_option linter.unusedVariables false
set_option linter.unusedSimpArgs false
set_option linter.unnecessarySimpa false
variable {DR : Prop} {P : Program} {X : Cx}
theorem regrid' {S : Nat → Nat → Prop} {β : Blocks} {w : World} {h : List AObj} (hi : HInv S β w h) {r k : Nat} {es : List V} (hr : h[r]? = some (.row k es)) : HInv S β w (h.set r (.grid k ((es.flatMap V.cells).map .v))) := by
 have hlt := lt_of_getElem? hr
 have hlen := hi.len
 obtain ⟨⟨b, c, k'⟩, hb⟩ : ∃ x, β[r]? = some x := ⟨_, List.getElem?_eq_getElem (by omega)⟩
 obtain ⟨o1, o2, o3, o4, o5, cur, e, o6, o7, o8⟩ := hi.obj r _ b c k' hr hb
 subst o1
 obtain ⟨f1, f2⟩ := flat_cell o2 (xs := es) o5
 exact (own_write (DR := False) (w' := w) (o' := .grid k ((es.flatMap V.cells).map .v)) hi hr rfl hb rfl (fun _ _ => rfl) rfl rfl rfl (Nat.le_refl _) rfl
  (fun hk => ⟨rfl, o2, o3, by rw [List.length_map, f1]; exact Nat.mul_le_mul_right _ o4, cur, e, o6, o7, fun j v d h1 h2 => by
   rw [List.getElem?_map] at h2
   obtain ⟨y, hy, rfl⟩ := Option.map_eq_some_iff.1 h2
   obtain ⟨i, j', x, e1, e2, e3⟩ := f2 j y hy
   exact .v _ _ (o8 i j' x y v e1 e2 (by rw [← e3]; exact h1))⟩)).2
def nilSl : V → Bool
 | .sl .nil [] => true
 | _ => false
def gridAt (σ : St) (r : Nat) : St := match σ.heap[r]? with
 | some (.row k es) => if es.all nilSl && !es.isEmpty then ⟨σ.tmps, σ.heap.set r (.grid k ((es.flatMap V.cells).map .v))⟩ else σ
 | _ => σ
theorem Ht.gridAt {c : Code} {σ : St} {Q : Post} {r : Nat} (h : Ht DR P c (gridAt σ r) Q) : Ht DR P c σ Q := by
 unfold Abs.gridAt at h
 split at h
 ·rename_i k es hr
  split at h
  ·exact fun S β a w hI => h S β a w ⟨hI.size, hI.tmps, regrid' hI.heap hr, hI.defers⟩
  ·exact h
 ·exact h
def gridS (σ : St) : St := (List.range σ.heap.length).foldl gridAt σ
theorem Ht.gridL {c : Code} {Q : Post} : ∀ (l : List Nat) (σ : St), Ht DR P c (l.foldl Abs.gridAt σ) Q → Ht DR P c σ Q
 | [], σ, h => h
 | r :: l, σ, h => Ht.gridAt (Ht.gridL l _ h)
def evl (body : St → Option (AExit × St)) : Nat → St → Option (AExit × St)
 | 0, _ => none
 | n + 1, σ => match body σ with
  | some (.normal, σ') => evl body n σ'
  | r => r
def ev (E : Env) (Γ : Calling) (n : Nat) : Code → St → Option (AExit × St)
 | .skip, σ => some (.normal, σ)
 | .region p ops draw, σ => aeval E Γ ⟨fun _ => [], fun _ => [], fun _ => []⟩ [] n (.region p ops draw) σ
 | .seq a b, σ => match ev E Γ n a σ with
  | some (.normal, σ') => ev E Γ n b σ'
  | r => r
 | .cond c t e, σ => match σ.ev c with
  | .v (.bool true) => ev E Γ n t σ
  | .v (.bool false) => ev E Γ n e σ
  | _ => none
 | .block id c, σ => match ev E Γ n c σ with
  | some (.exit id', σ') => if id' = id then some (.normal, σ') else some (.exit id', σ')
  | r => r
 | .loop c, σ => evl (ev E Γ n c) n (gridS σ)
 | .exit id, σ => some (.exit id, σ)
 | .ret, σ => some (.ret, σ)
 | _, _ => none
theorem ev_ht {E : Env} {Γ : Calling} (hm : P.follows .mixedOrders = true) (hT : ∀ t i, E.T t = some i → tiOf P t = some i) (hΓ : CSound DR P Γ) (n : Nat) : ∀ (c : Code) (σ : St) (e : AExit) (σ' : St), ev E Γ n c σ = some (e, σ') → ∀ {Q : Post}, Q e σ' → Ht DR P c σ Q := by
 have H : Hx DR P ⟨E, Γ, ⟨fun _ => [], fun _ => [], fun _ => []⟩, [], n⟩ := ⟨hm, hT, hΓ⟩
 intro c
 induction c with
 | skip => intro σ e σ' h Q hq; simp only [ev] at h; cases h; exact Ht.skip rfl hq
 | region p ops draw => intro σ e σ' h Q hq; exact Ht.of_wp H ⟨e, σ', h, hq⟩
 | seq a b iha ihb =>
  intro σ e σ' h Q hq
  simp only [ev] at h
  refine Ht.seq rfl ?_
  cases ha : ev E Γ n a σ with
  | none => rw [ha] at h; cases h
  | some r =>
   obtain ⟨e1, σ1⟩ := r
   rw [ha] at h
   cases e1 with
   | normal => exact iha σ _ σ1 ha (ihb σ1 e σ' h hq)
   | exit id => cases h; exact iha σ _ _ ha hq
   | ret => cases h; exact iha σ _ _ ha hq
 | cond c t e iht ihe =>
  intro σ ex σ' h Q hq
  simp only [ev] at h
  split at h
  ·rename_i hv
   exact Ht.cond true rfl hv (fun _ => iht σ ex σ' h hq) (fun h0 => by cases h0)
  ·rename_i hv
   exact Ht.cond false rfl hv (fun h0 => by cases h0) (fun _ => ihe σ ex σ' h hq)
  ·cases h
 | block id c ih =>
  intro σ e σ' h Q hq
  simp only [ev] at h
  refine Ht.block id rfl ?_
  cases ha : ev E Γ n c σ with
  | none => rw [ha] at h; cases h
  | some r =>
   obtain ⟨e1, σ1⟩ := r
   rw [ha] at h
   refine ih σ e1 σ1 ha ?_
   cases e1 with
   | normal => cases h; exact hq
   | exit id' =>
    dsimp only at h
    simp only [blkH]
    split at h
    ·rename_i e0; cases h; rw [if_pos e0]; exact hq
    ·rename_i e0; cases h; rw [if_neg e0]; exact hq
   | ret => cases h; exact hq
 | loop c ih =>
  intro σ e σ' h Q hq
  simp only [ev] at h
  refine Ht.gridL (List.range σ.heap.length) σ ?_
  refine Ht.loop (fun m τ => evl (ev E Γ n c) m τ = some (e, σ')) n rfl h ?_
  intro m τ hτ
  cases m with
  | zero => cases hτ
  | succ m =>
   simp only [evl] at hτ
   cases ha : ev E Γ n c τ with
   | none => rw [ha] at hτ; cases hτ
   | some r =>
    obtain ⟨e1, τ1⟩ := r
    rw [ha] at hτ
    refine ih τ e1 τ1 ha ?_
    cases e1 with
    | normal => exact ⟨m, Nat.lt_succ_self m, hτ⟩
    | exit id => cases hτ; exact hq
    | ret => cases hτ; exact hq
 | exit id => intro σ e σ' h Q hq; simp only [ev] at h; cases h; exact Ht.exit rfl hq
 | ret => intro σ e σ' h Q hq; simp only [ev] at h; cases h; exact Ht.ret rfl hq
 | _ => intro σ e σ' h Q hq; simp only [ev] at h; cases h
def run2 (P : Program) (E : FuncId → Env) (E1 : Env) (use : FuncId → Bool) : Nat → Calling
 | 0, _, _, _ => none
 | n + 1, f, ds, h => if use f then match P.funcs[f]? with
   | none => none
   | some fn => match fn.body with
    | none => none
    | some c => match ev (E f) (run2 P E E1 use n) n c ⟨ds ++ List.replicate (fn.ntmps - ds.length) U, h⟩ with
     | some (.normal, σ) => (resultsD (E f).T σ fn.results.toList).map (·, σ.heap)
     | some (.ret, σ) => (resultsD (E f).T σ fn.results.toList).map (·, σ.heap)
     | _ => none
  else run P E1 n f ds h
theorem run2_sound {E : FuncId → Env} {E1 : Env} (hG : Good DR P E1) (hT : ∀ f t i, (E f).T t = some i → tiOf P t = some i) {use : FuncId → Bool} (hU : ∀ f, use f = true → Is P f) : ∀ n, CSound DR P (run2 P E E1 use n)
 | 0 => fun f ds h d h' hd => by simp [run2] at hd
 | n + 1 => fun f ds h d h' hd => by
  have ih := run2_sound hG hT hU n
  simp only [run2] at hd
  split at hd
  case isFalse => exact run_sound hG n f ds h d h' hd
  rename_i hu
  refine ⟨hU f hu, ?_⟩
  split at hd
  case h_1 => cases hd
  rename_i fn hfn
  split at hd
  case h_1 => cases hd
  rename_i c hc
  have key : ∀ e σ, ev (E f) (run2 P E E1 use n) n c ⟨ds ++ List.replicate (fn.ntmps - ds.length) U, h⟩ = some (e, σ) → (e = .normal ∨ e = .ret) → (resultsD (E f).T σ fn.results.toList).map (·, σ.heap) = some (d, h') → CallT DR P f ds h fun d0 h0 => d0 = d ∧ h0 = h' := fun e σ he hee hr => by
   refine callT_of_ht (T := (E f).T) hfn hc (hT f) ?_
   have hb : bodyOf P f = c := by simp only [bodyOf, hfn, hc]
   have hs : startIn P f ds h = ⟨ds ++ List.replicate (fn.ntmps - ds.length) U, h⟩ := by simp only [startIn, hfn]
   have hres : resOf P f = fn.results.toList := by simp only [resOf, hfn]
   rw [hb, hs, hres]
   obtain ⟨d0, h1, h2⟩ := Option.map_eq_some_iff.1 hr
   cases h2
   exact ev_ht (E := E f) hG.mixed (hT f) ih n c _ e σ he ⟨hee, d, h1, rfl, rfl⟩
  have fin : CallT DR P f ds h fun d0 h0 => d0 = d ∧ h0 = h' := by
   split at hd
   ·rename_i σ he; exact key _ σ he (.inl rfl) hd
   ·rename_i σ he; exact key _ σ he (.inr rfl) hd
   ·cases hd
  intro S β w vs hr hi
  refine (fin S β w vs hr hi).mono ?_
  rintro e w' ⟨d0, h0, v, S', β', ⟨rfl, rfl⟩, q⟩
  exact ⟨v, S', β', q⟩
end Go.Abs
