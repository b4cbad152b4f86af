/-
  THE ABSTRACT LAYER, 12b: own memory that is let go, and moved.
-/
import Derived.Test.YthjhdnonlkooiaaDoorAbsF
namespace Go.Abs
set_option linter.unusedVariables false
variable {DR : Prop}

theorem RelD.withRef {S : Nat → Nat → Prop} {β β' : Blocks} {w : World} {v : Value} {d : D} {r r' : Nat} (h : RelD S β w v d) (hr : d.ref? = some r) (hb : ∀ x, β[r]? = some x → β'[r']? = some x) : RelD S β' w v (d.withRef r') := by
  cases h <;> simp only [D.ref?, Option.some.injEq] at hr <;> first | (cases hr; done) | skip
  case ptr r0 off b c k h => subst hr; exact .ptr _ off b c k (hb _ h)
  case map r0 b c k h => subst hr; exact .map _ b c k (hb _ h)
  case osl r0 off len b c k p cap full h h2 hp hcap => subst hr; exact .osl _ off len b c k p cap full (hb _ h) h2 hp hcap
  case tsl t b c k n es h hn hs hv => subst hr; exact .tsl _ b c k n es (hb _ h) hn hs hv

theorem RelD.under {S : Nat → Nat → Prop} {β β' : Blocks} {w : World} {L : Nat} (hb : ∀ (r : Nat) x, r < L → β[r]? = some x → β'[r]? = some x) : ∀ (n : Nat) {v : Value} {d : D}, RelD S β w v d → d.under L n = true → RelD S β' w v d
  | 0, _, _, h, hd => by simp [D.under] at hd
  | n + 1, _, _, h, hd => by
    cases h with
    | undef _ => exact .undef _
    | v _ x h => exact .v _ x h
    | ptr r off b c k h => exact .ptr r off b c k (hb _ _ (by simpa [D.under] using hd) h)
    | eptr r i off b c k p h hp => exact .eptr r i off b c k p (hb _ _ (by simpa [D.under] using hd) h) hp
    | vptr b off cells vals hs hr => exact .vptr b off cells vals hs hr
    | map r b c k h => exact .map r b c k (hb _ _ (by simpa [D.under] using hd) h)
    | osl r off len b c k p cap full h h2 hp hcap => exact .osl r off len b c k p cap full (hb _ _ (by simpa [D.under] using hd) h) h2 hp hcap
    | tsl t b c k n es h hn hs hv => exact .tsl t b c k n es (hb _ _ (by simpa [D.under] using hd) h) hn hs hv
    | func f first captured fs cs hl hl' hr hr' =>
      simp only [D.under, Bool.and_eq_true, List.all_eq_true] at hd
      exact .func f first captured fs cs hl hl' (fun i v x h1 h2 => RelD.under hb n (hr i v x h1 h2) (hd.1 x (List.mem_of_getElem? h2))) (fun i v x h1 h2 => RelD.under hb n (hr' i v x h1 h2) (hd.2 x (List.mem_of_getElem? h2)))
    | agg vs cs hl hr =>
      simp only [D.under, List.all_eq_true] at hd
      exact .agg vs cs hl (fun i v x h1 h2 => RelD.under hb n (hr i v x h1 h2) (hd x (List.mem_of_getElem? h2)))
    | tuple vs cs hl hr =>
      simp only [D.under, List.all_eq_true] at hd
      exact .tuple vs cs hl (fun i v x h1 h2 => RelD.under hb n (hr i v x h1 h2) (hd x (List.mem_of_getElem? h2)))

theorem ObjRel.under {S : Nat → Nat → Prop} {β β' : Blocks} {w : World} {L : Nat} (hb : ∀ (r : Nat) x, r < L → β[r]? = some x → β'[r]? = some x) {b c k : Nat} {o : AObj} (h : ObjRel S β w b c k o) (ho : o.under L = true) : ObjRel S β' w b c k o := by
  cases o with
  | cells cs =>
    obtain ⟨h1, h2, h3, cur, e, h4, h5, h6⟩ := h
    simp only [AObj.under, List.all_eq_true] at ho
    exact ⟨h1, h2, h3, cur, e, h4, h5, fun j v d hv hd => (h6 j v d hv hd).under hb 5 (ho d (List.mem_of_getElem? hd))⟩
  | map ks vs =>
    obtain ⟨h1, h2, es, h3, h4, h5, h6, h7⟩ := h
    simp only [AObj.under, List.all_eq_true] at ho
    exact ⟨h1, h2, es, h3, h4, h5, h6, fun i e d he hd => (h7 i e d he hd).under hb 5 (ho d (List.mem_of_getElem? hd))⟩
  | iter m since seen last =>
    obtain ⟨h1, mv, h2, h3⟩ := h
    exact ⟨h1, mv, h2, h3.under hb 5 ho⟩
  | _ => exact h

theorem Inv.padS {S : Nat → Nat → Prop} {β : Blocks} {σ : St} {a : Act} {w : World} (h : Inv S β σ a w) : ∃ β', Inv S β' (padS σ) a w ∧ Ext DR S β w S β' w := by
  obtain ⟨e1, e2⟩ := h.heap.pad (DR := DR)
  exact ⟨_, ⟨h.size, fun i v d h1 h2 => (h.tmps i v d h1 h2).mono e1.keeps e1.pre, e2, h.defers⟩, e1⟩

theorem Inv.moveS {S : Nat → Nat → Prop} {β : Blocks} {σ : St} {a : Act} {w : World} (h : Inv S β σ a w) (s : Nat) : ∃ β', Inv S β' (moveS σ s) a w ∧ Ext DR S β w S β' w := by
  unfold Abs.moveS
  split
  · rename_i d hd
    split
    · rename_i r hr
      split
      · rename_i o ho
        split
        · rename_i hl
          have hlt := lt_of_getElem? ho
          have hlen := h.heap.len
          obtain ⟨⟨b, c, k⟩, hb⟩ : ∃ x, β[r]? = some x := ⟨_, List.getElem?_eq_getElem (by omega)⟩
          obtain ⟨e1, e2⟩ := h.heap.move ho hl hb
          refine ⟨_, ⟨by simp [h.size], fun i v d' h1 h2 => ?_, e2, h.defers⟩, e1⟩
          simp only [List.getElem?_set] at h2
          split at h2
          · rename_i e
            subst e
            split at h2
            · cases h2
              refine (h.tmps s v d h1 hd).withRef hr (fun x hx => ?_)
              rw [hb] at hx
              cases hx
              rw [← hlen]
              simp
            · cases h2
          · exact (h.tmps i v d' h1 h2).mono e1.keeps e1.pre
        · exact h.padS
      · exact h.padS
    · exact h.padS
  · exact h.padS

theorem Inv.moves {S : Nat → Nat → Prop} {a : Act} {w : World} : ∀ (acc : List Nat) {β : Blocks} {σ : St}, Inv S β σ a w → ∃ β', Inv S β' (acc.foldl Abs.moveS σ) a w ∧ Ext DR S β w S β' w
  | [], β, σ, h => ⟨β, h, Ext.refl _ _ _⟩
  | s :: acc, β, σ, h => by
    obtain ⟨β1, h1, e1⟩ := h.moveS s
    obtain ⟨β2, h2, e2⟩ := Inv.moves acc h1
    exact ⟨β2, h2, e1.trans e2⟩

theorem cut_get {α : Type} (l : List α) {L M : Nat} (hLM : L ≤ M) (hM : M ≤ l.length) (j : Nat) : (l.take L ++ l.drop M)[j]? = if j < L then l[j]? else l[j + (M - L)]? := by
  rw [List.getElem?_append]
  have h1 : (l.take L).length = L := by simp; omega
  rw [h1]
  split
  · rename_i h; rw [List.getElem?_take, if_pos h]
  · rename_i h; rw [List.getElem?_drop]; congr 1; omega

theorem Inv.cutS {S : Nat → Nat → Prop} {β : Blocks} {σ : St} {a : Act} {w : World} (h : Inv S β σ a w) (keep : List Nat) {L M : Nat} (hLM : L ≤ M) (hM : M ≤ σ.heap.length) :
    ∃ β', Inv S β' (cutS keep L M σ) a w ∧ ∀ (S0 : Nat → Nat → Prop) (β0 : Blocks) (w0 : World), β0.length = L → Ext DR S0 β0 w0 S β w → Ext DR S0 β0 w0 S β' w := by
  unfold Abs.cutS
  split
  · rename_i hok
    rw [Bool.and_eq_true, List.all_eq_true, List.all_eq_true] at hok
    split
    · rename_i ts hts
      obtain ⟨t1, t2⟩ := allM_spec hts
      have hlen := h.heap.len
      have hget := fun j => cut_get β hLM (by omega) j
      have hgeth := fun j => cut_get σ.heap hLM hM j
      have hb : ∀ (r : Nat) x, r < L → β[r]? = some x → (β.take L ++ β.drop M)[r]? = some x := fun r x hr hx => by rw [hget, if_pos hr]; exact hx
      -- the old place
      have old : ∀ (q : Nat) o x, (σ.heap.take L ++ σ.heap.drop M)[q]? = some o → (β.take L ++ β.drop M)[q]? = some x → ∃ q', σ.heap[q']? = some o ∧ β[q']? = some x ∧ (q' = q ∧ q < L ∨ q' = q + (M - L) ∧ L ≤ q) := by
        intro q o x g1 g2
        rw [hgeth] at g1
        rw [hget] at g2
        by_cases hq : q < L
        · rw [if_pos hq] at g1 g2; exact ⟨q, g1, g2, .inl ⟨rfl, hq⟩⟩
        · rw [if_neg hq] at g1 g2; exact ⟨_, g1, g2, .inr ⟨rfl, by omega⟩⟩
      have hobj : ∀ (q : Nat) o, (σ.heap.take L ++ σ.heap.drop M)[q]? = some o → o.under L = true := by
        intro q o g
        rcases List.mem_append.1 (List.mem_of_getElem? g) with g | g
        · exact hok.1 o g
        · exact hok.2 o g
      refine ⟨β.take L ++ β.drop M, ⟨?_, fun i v d h1 h2 => ?_, ⟨by simp [hlen], fun q o b c k g1 g2 => ?_, fun q o b c k g1 l1 g2 => ?_, fun q1 q2 o1 o2 b c1 k1 c2 k2 g1 l1 g2 l2 g3 g4 => ?_, fun q o b c k i g1 l1 g2 => ?_, h.heap.sb, h.heap.gl, fun r b c k hr => by
        rw [hget] at hr
        split at hr
        · exact h.heap.dl _ _ _ _ hr
        · exact h.heap.dl _ _ _ _ hr⟩, h.defers⟩, fun S0 β0 w0 hl hE => ?_⟩
      · show a.tmps.size = ts.length
        rw [t1]; simp [h.size]
      · have hlt := lt_of_getElem? h2
        have hlt' : i < σ.tmps.length := by simpa [t1] using hlt
        have hd := List.getElem?_eq_getElem hlt'
        have hm : (σ.tmps.mapIdx (cutD keep L M))[i]? = some (cutD keep L M i σ.tmps[i]) := by rw [List.getElem?_mapIdx, hd]; rfl
        have hc : cutD keep L M i σ.tmps[i] = some d := t2 i _ d hm h2
        have hr := h.tmps i v _ h1 hd
        unfold cutD at hc
        split at hc
        · split at hc
          · rename_i hbel
            cases hc
            exact hr.under hb 5 hbel
          · split at hc
            · rename_i r href
              split at hc
              · rename_i hMr
                cases hc
                refine hr.withRef href (fun x hx => ?_)
                rw [hget, if_neg (by omega)]
                have : r - (M - L) + (M - L) = r := by omega
                rw [this]; exact hx
              · cases hc
            · cases hc
        · cases hc; exact .undef _
      · obtain ⟨q', a1, a2, _⟩ := old q o _ g1 g2
        exact (h.heap.obj q' o b c k a1 a2).under hb (hobj q o g1)
      · obtain ⟨q', a1, a2, _⟩ := old q o _ g1 g2
        exact h.heap.lt q' o b c k a1 l1 a2
      · obtain ⟨p1, a1, a2, a3⟩ := old q1 o1 _ g1 g3
        obtain ⟨p2, b1, b2, b3⟩ := old q2 o2 _ g2 g4
        have := h.heap.inj p1 p2 o1 o2 b c1 k1 c2 k2 a1 l1 b1 l2 a2 b2
        omega
      · obtain ⟨q', a1, a2, _⟩ := old q o _ g1 g2
        exact h.heap.own q' o b c k i a1 l1 a2
      · refine ⟨hE.keeps, fun r x hx => hb r x (by have := lt_of_getElem? hx; omega) (hE.pre r x hx), hE.size, hE.rest, fun r b c k hr => ?_, hE.os, hE.tape, hE.output, hE.drawn, hE.stay⟩
        rw [hget] at hr
        split at hr
        · exact hE.fresh _ b c k hr
        · exact hE.fresh _ b c k hr
    · exact ⟨β, h, fun S0 β0 w0 _ hE => hE⟩
  · exact ⟨β, h, fun S0 β0 w0 _ hE => hE⟩

theorem moveS_length (σ : St) (s : Nat) : (Abs.moveS σ s).heap.length = σ.heap.length + 1 := by
  unfold Abs.moveS Abs.padS
  repeat' split
  all_goals simp
theorem moves_length : ∀ (acc : List Nat) (σ : St), (acc.foldl Abs.moveS σ).heap.length = σ.heap.length + acc.length
  | [], σ => rfl
  | s :: acc, σ => by simp only [List.foldl_cons, List.length_cons]; rw [moves_length acc, moveS_length]; omega

theorem Inv.squash {S : Nat → Nat → Prop} {β : Blocks} {σ : St} {a : Act} {w : World} (h : Inv S β σ a w) (keep acc : List Nat) {L : Nat} (hL : L ≤ σ.heap.length) :
    ∃ β', Inv S β' (squash keep acc L σ) a w ∧ ∀ (S0 : Nat → Nat → Prop) (β0 : Blocks) (w0 : World), β0.length = L → Ext DR S0 β0 w0 S β w → Ext DR S0 β0 w0 S β' w := by
  unfold Abs.squash
  split
  · exact ⟨β, h, fun _ _ _ _ h => h⟩
  · obtain ⟨β1, h1, e1⟩ := h.moves acc
    obtain ⟨β2, h2, e2⟩ := h1.cutS keep hL (by rw [moves_length]; omega)
    exact ⟨β2, h2, fun S0 β0 w0 hl hE => e2 S0 β0 w0 hl (hE.trans e1)⟩

theorem Ext.le {S S' : Nat → Nat → Prop} {β β' : Blocks} {w w' : World} (h : Ext DR S β w S' β' w') : β.length ≤ β'.length := by
  rcases Nat.lt_or_ge β'.length β.length with hlt | hge
  · exfalso
    have h1 := List.getElem?_eq_getElem (l := β) (i := β'.length) hlt
    have h2 := h.pre _ _ h1
    rw [List.getElem?_eq_none (Nat.le_refl _)] at h2
    cases h2
  · exact hge
end Go.Abs
