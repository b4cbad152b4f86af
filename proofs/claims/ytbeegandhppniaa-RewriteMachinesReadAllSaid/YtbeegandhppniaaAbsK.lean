import Derived.Test.YtbeegandhppniaaAbsF
namespace Go.Abs
set_option linter.unusedVariables false
set_option linter.unusedSimpArgs false
set_option linter.unnecessarySimpa false
variable {DR : Prop}
theorem RelD.withRef {S : Nat → Nat → Prop} {β β' : Blocks} {w : World} {v : Value} {d : D} {r r' : Nat} (h : RelD S β w v d) (hr : d.ref? = some r) (hb : ∀ x, β[r]? = some x → β'[r']? = some x) : RelD S β' w v (d.withRef r') := by
 cases h <;> simp only [D.ref?, Option.some.injEq] at hr <;> first | (cases hr; done) | skip
 case ptr r0 off b c k h => subst hr; exact .ptr _ off b c k (hb _ h)
 case map r0 b c k h => subst hr; exact .map _ b c k (hb _ h)
 case osl r0 off len b c k p cap full h h2 hp hcap => subst hr; exact .osl _ off len b c k p cap full (hb _ h) h2 hp hcap
 case tsl t b c k n es h hn hs hv => subst hr; exact .tsl _ b c k n es (hb _ h) hn hs hv
theorem RelD.under {S : Nat → Nat → Prop} {β β' : Blocks} {w : World} {L : Nat} (hb : ∀ (r : Nat) x, r < L → β[r]? = some x → β'[r]? = some x) : ∀ (n : Nat) {v : Value} {d : D}, RelD S β w v d → d.under L n = true → RelD S β' w v d
 | 0, _, _, h, hd => by simp [D.under] at hd
 | n + 1, _, _, h, hd => by
  cases h with
  | undef _ => exact .undef _
  | v _ x h => exact .v _ x h
  | ptr r off b c k h => exact .ptr r off b c k (hb _ _ (by simpa [D.under] using hd) h)
  | eptr r i off b c k p h hp => exact .eptr r i off b c k p (hb _ _ (by simpa [D.under] using hd) h) hp
  | vptr b off cells vals hs hr => exact .vptr b off cells vals hs hr
  | map r b c k h => exact .map r b c k (hb _ _ (by simpa [D.under] using hd) h)
  | osl r off len b c k p cap full h h2 hp hcap => exact .osl r off len b c k p cap full (hb _ _ (by simpa [D.under] using hd) h) h2 hp hcap
  | tsl t b c k n es h hn hs hv => exact .tsl t b c k n es (hb _ _ (by simpa [D.under] using hd) h) hn hs hv
  | func f first captured fs cs hl hl' hr hr' =>
   simp only [D.under, Bool.and_eq_true, List.all_eq_true] at hd
   exact .func f first captured fs cs hl hl' (fun i v x h1 h2 => RelD.under hb n (hr i v x h1 h2) (hd.1 x (List.mem_of_getElem? h2))) (fun i v x h1 h2 => RelD.under hb n (hr' i v x h1 h2) (hd.2 x (List.mem_of_getElem? h2)))
  | agg vs cs hl hr =>
   simp only [D.under, List.all_eq_true] at hd
   exact .agg vs cs hl (fun i v x h1 h2 => RelD.under hb n (hr i v x h1 h2) (hd x (List.mem_of_getElem? h2)))
  | tuple vs cs hl hr =>
   simp only [D.under, List.all_eq_true] at hd
   exact .tuple vs cs hl (fun i v x h1 h2 => RelD.under hb n (hr i v x h1 h2) (hd x (List.mem_of_getElem? h2)))
  | box t v d hr =>
   simp only [D.under] at hd
   exact .box t v d (RelD.under hb n hr hd)
theorem ObjRel.under {S : Nat → Nat → Prop} {β β' : Blocks} {w : World} {L : Nat} (hb : ∀ (r : Nat) x, r < L → β[r]? = some x → β'[r]? = some x) {b c k : Nat} {o : AObj} (h : ObjRel S β w b c k o) (ho : o.under L = true) : ObjRel S β' w b c k o := by
 cases o with
 | cells cs =>
  obtain ⟨h1, h2, h3, cur, e, h4, h5, h6⟩ := h
  simp only [AObj.under, List.all_eq_true] at ho
  exact ⟨h1, h2, h3, cur, e, h4, h5, fun j v d hv hd => (h6 j v d hv hd).under hb 5 (ho d (List.mem_of_getElem? hd))⟩
 | grid k' cs =>
  obtain ⟨h1, h0, h2, h3, cur, e, h4, h5, h6⟩ := h
  simp only [AObj.under, List.all_eq_true] at ho
  exact ⟨h1, h0, h2, h3, cur, e, h4, h5, fun j v d hv hd => (h6 j v d hv hd).under hb 5 (ho d (List.mem_of_getElem? hd))⟩
 | map ks vs =>
  obtain ⟨h1, h2, es, h3, h4, h5, h6, h7⟩ := h
  simp only [AObj.under, List.all_eq_true] at ho
  exact ⟨h1, h2, es, h3, h4, h5, h6, fun i e d he hd => (h7 i e d he hd).under hb 5 (ho d (List.mem_of_getElem? hd))⟩
 | iter m since seen last =>
  obtain ⟨h1, mv, h2, h3⟩ := h
  exact ⟨h1, mv, h2, h3.under hb 5 ho⟩
 | _ => exact h
theorem Inv.padS {S : Nat → Nat → Prop} {β : Blocks} {σ : St} {a : Act} {w : World} (h : Inv S β σ a w) : ∃ β', Inv S β' (padS σ) a w ∧ Ext DR S β w S β' w := by
 obtain ⟨e1, e2⟩ := h.heap.pad (DR := DR)
 exact ⟨_, ⟨h.size, fun i v d h1 h2 => (h.tmps i v d h1 h2).mono e1.keeps e1.pre, e2, h.defers⟩, e1⟩
theorem Inv.moveT {S : Nat → Nat → Prop} {β : Blocks} {σ : St} {a : Act} {w : World} (h : Inv S β σ a w) (s : Nat) : ∃ β', Inv S β' (moveT σ s) a w ∧ Ext DR S β w S β' w := by
 unfold Abs.moveT
 split
 ·rename_i d hd
  split
  ·rename_i r hr
   split
   ·rename_i o ho
    split
    ·rename_i hl
     have hlt := lt_of_getElem? ho
     have hlen := h.heap.len
     obtain ⟨⟨b, c, k⟩, hb⟩ : ∃ x, β[r]? = some x := ⟨_, List.getElem?_eq_getElem (by omega)⟩
     obtain ⟨e1, e2⟩ := h.heap.move ho hl hb
     refine ⟨_, ⟨by simp [h.size], fun i v d' h1 h2 => ?_, e2, h.defers⟩, e1⟩
     simp only [List.getElem?_set] at h2
     split at h2
     ·rename_i e
      subst e
      split at h2
      ·cases h2
       refine (h.tmps s v d h1 hd).withRef hr (fun x hx => ?_)
       rw [hb] at hx
       cases hx
       rw [← hlen]
       simp
      ·cases h2
     ·exact (h.tmps i v d' h1 h2).mono e1.keeps e1.pre
    ·exact h.padS
   ·exact h.padS
  ·exact h.padS
 ·exact h.padS
theorem HInv.recell {S : Nat → Nat → Prop} {β : Blocks} {w : World} {h : List AObj} (hi : HInv S β w h) {p : Nat} {cs cs' : List D} (hp : h[p]? = some (.cells cs)) (hl : cs'.length = cs.length)
  (hr : ∀ (j : Nat) (v : Value) (d' : D), cs'[j]? = some d' → (∀ d, cs[j]? = some d → RelD S β w v d) → RelD S β w v d') : HInv S β w (h.set p (.cells cs')) := by
 have hlt := lt_of_getElem? hp
 have get : ∀ (r : Nat) (o : AObj), (h.set p (.cells cs'))[r]? = some o → (r = p ∧ o = .cells cs') ∨ (r ≠ p ∧ h[r]? = some o) := by
  intro r o g
  by_cases e : p = r
  ·subst e
   rw [List.getElem?_set_self hlt] at g
   cases g; exact .inl ⟨rfl, rfl⟩
  ·rw [List.getElem?_set_ne e] at g
   exact .inr ⟨fun e' => e e'.symm, g⟩
 refine ⟨by rw [List.length_set]; exact hi.len, fun r o b c k g1 g2 => ?_, fun r o b c k g1 l1 g2 => ?_, fun r r' o o' b c k c' k' g1 l1 g2 l2 g3 g4 => ?_, fun r o b c k i g1 l1 g2 => ?_, hi.sb, hi.gl, hi.dl⟩
 ·rcases get r o g1 with ⟨rfl, rfl⟩ | ⟨_, g⟩
  ·obtain ⟨h1, h2, h3, cur, e, h4, h5, h6⟩ := hi.obj r _ b c k hp g2
   exact ⟨h1, h2, by rw [hl]; exact h3, cur, e, h4, h5, fun j v d hv hd => hr j v d hd fun d0 h0 => h6 j v d0 hv h0⟩
  ·exact hi.obj r o b c k g g2
 ·rcases get r o g1 with ⟨rfl, rfl⟩ | ⟨_, g⟩
  ·exact hi.lt r _ b c k hp rfl g2
  ·exact hi.lt r o b c k g l1 g2
 ·rcases get r o g1 with ⟨rfl, rfl⟩ | ⟨_, g⟩ <;> rcases get r' o' g2 with ⟨rfl, rfl⟩ | ⟨_, g'⟩
  ·rfl
  ·exact hi.inj _ r' _ o' b c k c' k' hp rfl g' l2 g3 g4
  ·exact hi.inj r _ o _ b c k c' k' g l1 hp rfl g3 g4
  ·exact hi.inj r r' o o' b c k c' k' g l1 g' l2 g3 g4
 ·rcases get r o g1 with ⟨rfl, rfl⟩ | ⟨_, g⟩
  ·exact hi.own _ (.cells cs) b c k i hp rfl g2
  ·exact hi.own r o b c k i g l1 g2
theorem Inv.moveC {S : Nat → Nat → Prop} {β : Blocks} {σ : St} {a : Act} {w : World} (h : Inv S β σ a w) (s off : Nat) : ∃ β', Inv S β' (moveC σ s off) a w ∧ Ext DR S β w S β' w := by
 unfold Abs.moveC
 split
 ·rename_i p _
  split
  ·rename_i cs hp
   split
   ·rename_i d hd
    split
    ·rename_i r hr
     split
     ·rename_i o ho
      split
      ·rename_i hc
       rw [Bool.and_eq_true] at hc
       have hl := hc.1
       have hne : r ≠ p := by simpa using hc.2
       have hlt := lt_of_getElem? ho
       have hlen := h.heap.len
       obtain ⟨⟨b, c, k⟩, hb⟩ : ∃ x, β[r]? = some x := ⟨_, List.getElem?_eq_getElem (by omega)⟩
       obtain ⟨e1, e2⟩ := h.heap.move (DR := DR) ho hl hb
       have hp' : (σ.heap.set r .dead ++ [o])[p]? = some (.cells cs) := by
        rw [List.getElem?_append_left (by rw [List.length_set]; exact lt_of_getElem? hp), List.getElem?_set_ne hne]; exact hp
       refine ⟨_, ⟨h.size, fun i v d' h1 h2 => (h.tmps i v d' h1 h2).mono e1.keeps e1.pre, e2.recell hp' (by simp) fun j v d' h1 h2 => ?_, h.defers⟩, e1⟩
       rw [List.getElem?_set] at h1
       split at h1
       ·rename_i e
        subst e
        split at h1
        ·cases h1
         refine (h2 d hd).withRef hr fun x hx => ?_
         rw [List.getElem?_append_left (by omega)] at hx
         rw [hb] at hx
         cases hx
         rw [← hlen]
         simp
        ·cases h1
       ·exact h2 d' h1
      ·exact h.padS
     ·exact h.padS
    ·exact h.padS
   ·exact h.padS
  ·exact h.padS
 ·exact h.padS
theorem Inv.moveS {S : Nat → Nat → Prop} {β : Blocks} {σ : St} {a : Act} {w : World} (h : Inv S β σ a w) (s : Nat) : ∃ β', Inv S β' (moveS σ s) a w ∧ Ext DR S β w S β' w := by
 unfold Abs.moveS
 split
 ·exact h.moveT s
 ·exact h.moveC _ _
theorem Inv.moves {S : Nat → Nat → Prop} {a : Act} {w : World} : ∀ (acc : List Nat) {β : Blocks} {σ : St}, Inv S β σ a w → ∃ β', Inv S β' (acc.foldl Abs.moveS σ) a w ∧ Ext DR S β w S β' w
 | [], β, σ, h => ⟨β, h, Ext.refl _ _ _⟩
 | s :: acc, β, σ, h => by
  obtain ⟨β1, h1, e1⟩ := h.moveS s
  obtain ⟨β2, h2, e2⟩ := Inv.moves acc h1
  exact ⟨β2, h2, e1.trans e2⟩
theorem cut_get {α : Type} (l : List α) {L M : Nat} (hLM : L ≤ M) (hM : M ≤ l.length) (j : Nat) : (l.take L ++ l.drop M)[j]? = if j < L then l[j]? else l[j + (M - L)]? := by
 rw [List.getElem?_append]
 have h1 : (l.take L).length = L := by simp; omega
 rw [h1]
 split
 ·rename_i h; rw [List.getElem?_take, if_pos h]
 ·rename_i h; rw [List.getElem?_drop]; congr 1; omega
theorem Inv.cutS {S : Nat → Nat → Prop} {β : Blocks} {σ : St} {a : Act} {w : World} (h : Inv S β σ a w) (keep : List Nat) {L M : Nat} (hLM : L ≤ M) (hM : M ≤ σ.heap.length) :
  ∃ β', Inv S β' (cutS keep L M σ) a w ∧ ∀ (S0 : Nat → Nat → Prop) (β0 : Blocks) (w0 : World), β0.length = L → Ext DR S0 β0 w0 S β w → Ext DR S0 β0 w0 S β' w := by
 unfold Abs.cutS
 split
 ·rename_i hok
  rw [List.all_eq_true] at hok
  split
  ·rename_i hs ts hhs hts
   obtain ⟨t1, t2⟩ := allM_spec hts
   obtain ⟨u1, u2⟩ := allM_spec hhs
   have u0 : hs.length = L := by rw [u1, List.length_take]; have := h.heap.len; omega
   have hlen := h.heap.len
   have hget := fun j => cut_get β hLM (by omega) j
   have hb : ∀ (r : Nat) x, r < L → β[r]? = some x → (β.take L ++ β.drop M)[r]? = some x := fun r x hr hx => by rw [hget, if_pos hr]; exact hx
   have hbM : ∀ (r : Nat) x, M ≤ r → β[r]? = some x → (β.take L ++ β.drop M)[r - (M - L)]? = some x := fun r x hr hx => by
    rw [hget, if_neg (by omega), show r - (M - L) + (M - L) = r by omega]; exact hx
   have cutC_rel : ∀ {v : Value} {d d' : D}, RelD S β w v d → cutC L M d = some d' → RelD S (β.take L ++ β.drop M) w v d' := by
    intro v d d' hd hc
    unfold cutC at hc
    split at hc
    ·rename_i hbel; cases hc; exact hd.under hb 5 hbel
    ·split at hc
     ·rename_i r href
      split at hc
      ·rename_i hMr; cases hc
       exact hd.withRef href fun x hx => hbM r x hMr hx
      ·cases hc
     ·cases hc
   have cut_rel : ∀ {o o' : AObj} {b c k : Nat}, ObjRel S β w b c k o → AObj.cut L M o = some o' → ObjRel S (β.take L ++ β.drop M) w b c k o' ∧ o'.live = o.live ∧ o'.room = o.room := by
    intro o o' b c k hob hc
    cases o with
    | cells cs =>
     obtain ⟨cs', hcs, rfl⟩ := Option.map_eq_some_iff.1 hc
     obtain ⟨v1, v2⟩ := allM_spec hcs
     obtain ⟨h1, h2, h3, cur, e, h4, h5, h6⟩ := hob
     refine ⟨⟨h1, h2, by omega, cur, e, h4, h5, fun j v d hv hd => ?_⟩, rfl, rfl⟩
     have hj : j < cs.length := by have := lt_of_getElem? hd; omega
     have hx := List.getElem?_eq_getElem hj
     exact cutC_rel (h6 j v _ hv hx) (v2 j _ d hx hd)
    | grid k' cs =>
     obtain ⟨cs', hcs, rfl⟩ := Option.map_eq_some_iff.1 hc
     obtain ⟨v1, v2⟩ := allM_spec hcs
     obtain ⟨h1, h0, h2, h3, cur, e, h4, h5, h6⟩ := hob
     refine ⟨⟨h1, h0, h2, by omega, cur, e, h4, h5, fun j v d hv hd => ?_⟩, rfl, rfl⟩
     have hj : j < cs.length := by have := lt_of_getElem? hd; omega
     have hx := List.getElem?_eq_getElem hj
     exact cutC_rel (h6 j v _ hv hx) (v2 j _ d hx hd)
    | _ =>
     simp only [AObj.cut] at hc
     split at hc
     ·rename_i hu; cases hc; exact ⟨hob.under hb hu, rfl, rfl⟩
     ·cases hc
   -- the old place
   have old : ∀ (q : Nat) o x, (hs ++ σ.heap.drop M)[q]? = some o → (β.take L ++ β.drop M)[q]? = some x → ∃ q' o0, σ.heap[q']? = some o0 ∧ β[q']? = some x ∧ (q' = q ∧ q < L ∨ q' = q + (M - L) ∧ L ≤ q) ∧ (∀ {b c k : Nat}, ObjRel S β w b c k o0 → ObjRel S (β.take L ++ β.drop M) w b c k o) ∧ o.live = o0.live ∧ o.room = o0.room := by
    intro q o x g1 g2
    rw [hget] at g2
    by_cases hq : q < L
    ·rw [if_pos hq] at g2
     rw [List.getElem?_append_left (by omega)] at g1
     have hql : q < σ.heap.length := by omega
     have hx : (σ.heap.take L)[q]? = some σ.heap[q] := by rw [List.getElem?_take_of_lt hq]; exact List.getElem?_eq_getElem hql
     have hc := u2 q _ o hx g1
     obtain ⟨⟨b0, c0, k0⟩, hb0⟩ : ∃ y, β[q]? = some y := ⟨x, g2⟩
     have hob := h.heap.obj q _ b0 c0 k0 (List.getElem?_eq_getElem hql) hb0
     exact ⟨q, _, List.getElem?_eq_getElem hql, g2, .inl ⟨rfl, hq⟩, fun hr => (cut_rel hr hc).1, (cut_rel hob hc).2.1, (cut_rel hob hc).2.2⟩
    ·rw [if_neg hq] at g2
     rw [List.getElem?_append_right (by omega), u0] at g1
     have hu := hok o (List.mem_of_getElem? g1)
     rw [List.getElem?_drop, show M + (q - L) = q + (M - L) by omega] at g1
     exact ⟨_, o, g1, g2, .inr ⟨rfl, by omega⟩, fun hr => hr.under hb hu, rfl, rfl⟩
   refine ⟨β.take L ++ β.drop M, ⟨?_, fun i v d h1 h2 => ?_, ⟨by simp only [List.length_append, List.length_take, List.length_drop, u0]; omega, fun q o b c k g1 g2 => ?_, fun q o b c k g1 l1 g2 => ?_, fun q1 q2 o1 o2 b c1 k1 c2 k2 g1 l1 g2 l2 g3 g4 => ?_, fun q o b c k i g1 l1 g2 => ?_, h.heap.sb, h.heap.gl, fun r b c k hr => by
    rw [hget] at hr
    split at hr
    ·exact h.heap.dl _ _ _ _ hr
    ·exact h.heap.dl _ _ _ _ hr⟩, h.defers⟩, fun S0 β0 w0 hl hE => ?_⟩
   ·show a.tmps.size = ts.length
    rw [t1]; simp [h.size]
   ·have hlt := lt_of_getElem? h2
    have hlt' : i < σ.tmps.length := by simpa [t1] using hlt
    have hd := List.getElem?_eq_getElem hlt'
    have hm : (σ.tmps.mapIdx (cutD keep L M))[i]? = some (cutD keep L M i σ.tmps[i]) := by rw [List.getElem?_mapIdx, hd]; rfl
    have hc : cutD keep L M i σ.tmps[i] = some d := t2 i _ d hm h2
    have hr := h.tmps i v _ h1 hd
    unfold cutD at hc
    split at hc
    ·split at hc
     ·rename_i hbel
      cases hc
      exact hr.under hb 5 hbel
     ·split at hc
      ·rename_i r href
       split at hc
       ·rename_i hMr
        cases hc
        refine hr.withRef href (fun x hx => ?_)
        rw [hget, if_neg (by omega)]
        have : r - (M - L) + (M - L) = r := by omega
        rw [this]; exact hx
       ·cases hc
      ·cases hc
    ·cases hc; exact .undef _
   ·obtain ⟨q', o0, a1, a2, _, a4, _⟩ := old q o _ g1 g2
    exact a4 (h.heap.obj q' o0 b c k a1 a2)
   ·obtain ⟨q', o0, a1, a2, _, _, a5, _⟩ := old q o _ g1 g2
    exact h.heap.lt q' o0 b c k a1 (a5 ▸ l1) a2
   ·obtain ⟨p1, x1, a1, a2, a3, _, a5, _⟩ := old q1 o1 _ g1 g3
    obtain ⟨p2, x2, b1, b2, b3, _, b5, _⟩ := old q2 o2 _ g2 g4
    have := h.heap.inj p1 p2 x1 x2 b c1 k1 c2 k2 a1 (a5 ▸ l1) b1 (b5 ▸ l2) a2 b2
    omega
   ·obtain ⟨q', o0, a1, a2, _, _, a5, a6⟩ := old q o _ g1 g2
    rw [a6]
    exact h.heap.own q' o0 b c k i a1 (a5 ▸ l1) a2
   ·refine ⟨hE.keeps, fun r x hx => hb r x (by have := lt_of_getElem? hx; omega) (hE.pre r x hx), hE.size, hE.rest, fun r b c k hr => ?_, hE.os, hE.tape, hE.output, hE.drawn, hE.stay⟩
    rw [hget] at hr
    split at hr
    ·exact hE.fresh _ b c k hr
    ·exact hE.fresh _ b c k hr
  ·exact ⟨β, h, fun S0 β0 w0 _ hE => hE⟩
 ·exact ⟨β, h, fun S0 β0 w0 _ hE => hE⟩
theorem moveS_length (σ : St) (s : Nat) : (Abs.moveS σ s).heap.length = σ.heap.length + 1 := by
 unfold Abs.moveS Abs.moveT Abs.moveC Abs.padS
 repeat' split
 all_goals simp
theorem moves_length : ∀ (acc : List Nat) (σ : St), (acc.foldl Abs.moveS σ).heap.length = σ.heap.length + acc.length
 | [], σ => rfl
 | s :: acc, σ => by simp only [List.foldl_cons, List.length_cons]; rw [moves_length acc, moveS_length]; omega
theorem Inv.squash {S : Nat → Nat → Prop} {β : Blocks} {σ : St} {a : Act} {w : World} (h : Inv S β σ a w) (keep acc : List Nat) {L : Nat} (hL : L ≤ σ.heap.length) :
  ∃ β', Inv S β' (squash keep acc L σ) a w ∧ ∀ (S0 : Nat → Nat → Prop) (β0 : Blocks) (w0 : World), β0.length = L → Ext DR S0 β0 w0 S β w → Ext DR S0 β0 w0 S β' w := by
 unfold Abs.squash
 split
 ·exact ⟨β, h, fun _ _ _ _ h => h⟩
 ·obtain ⟨β1, h1, e1⟩ := h.moves acc
  obtain ⟨β2, h2, e2⟩ := h1.cutS keep hL (by rw [moves_length]; omega)
  exact ⟨β2, h2, fun S0 β0 w0 hl hE => e2 S0 β0 w0 hl (hE.trans e1)⟩
theorem Ext.le {S S' : Nat → Nat → Prop} {β β' : Blocks} {w w' : World} (h : Ext DR S β w S' β' w') : β.length ≤ β'.length := by
 rcases Nat.lt_or_ge β'.length β.length with hlt | hge
 ·exfalso
  have h1 := List.getElem?_eq_getElem (l := β) (i := β'.length) hlt
  have h2 := h.pre _ _ h1
  rw [List.getElem?_eq_none (Nat.le_refl _)] at h2
  cases h2
 ·exact hge
end Go.Abs
