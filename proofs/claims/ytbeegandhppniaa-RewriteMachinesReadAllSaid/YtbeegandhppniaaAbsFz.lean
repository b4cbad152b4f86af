import Derived.Test.YtbeegandhppniaaAbsHT
namespace Go.Abs
set_option linter.unusedVariables false
set_option linter.unusedSimpArgs false
set_option linter.unnecessarySimpa false
variable {DR : Prop}
theorem HInv.sub {S : Nat → Nat → Prop} {β : Blocks} {w : World} {h h2 : List AObj} (hi : HInv S β w h) (hl : h2.length = h.length) (back : ∀ (q : Nat) (y : AObj), h2[q]? = some y → y.live = true → h[q]? = some y) : HInv S β w h2 := by
 refine ⟨by rw [hl]; exact hi.len, fun q o b c k g1 g2 => ?_, fun q o b c k g1 l1 g2 => hi.lt q o b c k (back _ _ g1 l1) l1 g2, fun r1 r2 o1 o2 b c1 k1 c2 k2 g1 l1 g2 l2 g3 g4 => hi.inj r1 r2 o1 o2 b c1 k1 c2 k2 (back _ _ g1 l1) l1 (back _ _ g2 l2) l2 g3 g4,
  fun q o b c k i g1 l1 g2 => hi.own q o b c k i (back _ _ g1 l1) l1 g2, hi.sb, hi.gl, hi.dl⟩
 cases hl : o.live with
 | true => exact hi.obj q o b c k (back _ _ g1 hl) g2
 | false => cases o <;> first | trivial | cases hl
theorem HInv.part {S : Nat → Nat → Prop} {β : Blocks} {w : World} {h h1 h2 : List AObj} (hi : HInv S β w h) (l1 : h1.length = h.length) (l2 : h2.length = h.length)
  (b1 : ∀ (q : Nat) (y : AObj), h1[q]? = some y → y.live = true → h[q]? = some y) (b2 : ∀ (q : Nat) (y : AObj), h2[q]? = some y → y.live = true → h[q]? = some y)
  (dis : ∀ (q : Nat) (y z : AObj), h1[q]? = some y → y.live = true → h2[q]? = some z → z.live = true → False) : Ext DR S β w (withOwn S β h2) β w ∧ HInv (withOwn S β h2) β w h1 := by
 have hk : Keeps S w (withOwn S β h2) w := keeps_own S β h2 w
 have i2 := hi.sub l2 b2
 have i1 := hi.sub l1 b1
 constructor
 ·refine ⟨hk, fun _ _ h => h, Nat.le_refl _, fun _ _ _ => rfl, fun r b c k hr => .inr ⟨r, c, k, hr⟩, rfl, rfl, rfl, fun _ => Nat.le_refl _, fun b i hs => ?_⟩
  rcases hs with hs | ⟨r, o, c, k, g1, g2, g3⟩
  ·exact .inl hs
  ·obtain ⟨k', rfl⟩ := i2.kpos g1 g2 g3
   exact .inr (.inr ⟨r, c, k', g3⟩)
 ·refine ⟨i1.len, fun r o b c k g1 g2 => (i1.obj r o b c k g1 g2).mono hk (fun _ _ h => h) (fun _ => rfl), i1.lt, i1.inj, fun r o b c k i g1 gl g2 hs => ?_, own_sb i2, i1.gl.mono hk, i1.dl⟩
  rcases hs with hs | ⟨r', o', c', k', e1, e2, e3⟩
  ·exact i1.own r o b c k i g1 gl g2 hs
  ·have := hi.inj r r' o o' b c k c' k' (b1 _ _ g1 gl) gl (b2 _ _ e1 e2) e2 g2 e3
   subst this
   exact (dis r o o' g1 gl e1 e2).elim
theorem ptr_read {S : Nat → Nat → Prop} {β : Blocks} {w : World} {h : List AObj} (hi : HInv S β w h) {r : Nat} {cs : List D} {vs : List V} {n : Nat} (hr : h[r]? = some (.cells cs)) (hz : allM (frz h n) cs = some vs) {v : Value} (hv : RelD S β w v (.ptr r 0)) : RelD (withOwn S β h) β w v (.vptr vs) := by
 cases hv with
 | ptr _ _ b c k hb =>
 obtain ⟨o1, o2, o3, cur, e, o4, o5, o6⟩ := hi.obj r _ b c k hr hb
 have hlen : ∀ {ds : List D} {xs : List V}, allM (frz h n) ds = some xs → xs.length = ds.length ∧ ∀ (j : Nat) (x : V), xs[j]? = some x → ∃ d, ds[j]? = some d ∧ frz h n d = some x := by
  intro ds
  induction ds with
  | nil => intro xs hx; cases hx; exact ⟨rfl, fun j x hx => by simp at hx⟩
  | cons d r ih =>
   intro xs hx
   simp only [allM] at hx
   split at hx
   ·rename_i a b ha hb
    cases hx
    obtain ⟨i1, i2⟩ := ih hb
    refine ⟨by simp [i1], fun j x hx => ?_⟩
    cases j with
    | zero => cases hx; exact ⟨d, rfl, ha⟩
    | succ j => exact i2 j x hx
   ·cases hx
 obtain ⟨e1, e2⟩ := hlen hz
 refine .vptr b 0 vs (fun j => cur.getD j default) (fun j hj => ⟨.inr ⟨r, _, c, k, hr, rfl, hb⟩, ?_⟩) (fun j x hx => ?_)
 ·rw [Nat.zero_add, cell_own o4]
  have hjc : j < cur.size := by omega
  simp [Array.getD, hjc]
 ·obtain ⟨d, g1, g2⟩ := e2 j x hx
  have hjc : j < cur.size := by rw [o5, ← o3]; exact lt_of_getElem? g1
  have hc := Array.getElem?_eq_getElem hjc
  have := frz_sound hi n d x _ g2 (o6 j _ d hc g1)
  simpa [Array.getD, hjc] using this
variable {P : Program} {c : Code} {Q : Post}
theorem Ht.freeze {tmps : List D} {h h1 h2 : List AObj} {t r n : Nat} {cs : List D} {vs : List V} (ht : tmps[t]? = some (.ptr r 0)) (hr : h2[r]? = some (.cells cs)) (hz : allM (frz h2 n) cs = some vs) (l1 : h1.length = h.length) (l2 : h2.length = h.length)
  (b1 : ∀ (q : Nat) (y : AObj), h1[q]? = some y → y.live = true → h[q]? = some y) (b2 : ∀ (q : Nat) (y : AObj), h2[q]? = some y → y.live = true → h[q]? = some y)
  (dis : ∀ (q : Nat) (y z : AObj), h1[q]? = some y → y.live = true → h2[q]? = some z → z.live = true → False) (hh : Ht DR P c ⟨tmps.set t (.vptr vs), h1⟩ Q) : Ht DR P c ⟨tmps, h⟩ Q := by
 intro S β a w hI
 obtain ⟨hE, hI1⟩ := hI.heap.part (DR := DR) l1 l2 b1 b2 dis
 have hk : Keeps S w (withOwn S β h2) w := keeps_own S β h2 w
 have hI2 : Inv (withOwn S β h2) β ⟨tmps.set t (.vptr vs), h1⟩ a w := by
  refine ⟨by rw [hI.size]; simp, fun i v d g1 g2 => ?_, hI1, hI.defers⟩
  have g3 : (tmps.set t (.vptr vs))[i]? = some d := g2
  clear g2
  rw [List.getElem?_set] at g3
  split at g3
  ·rename_i e
   subst e
   split at g3
   ·cases g3
    exact ptr_read (hI.heap.sub l2 b2) hr hz (hI.tmps t v _ g1 ht)
   ·cases g3
  ·exact (hI.tmps i v d g1 g3).mono hk fun _ _ h => h
 exact wp_mono (hh _ β a w hI2) fun _ _ _ ⟨e, σ', hq, hx⟩ => ⟨e, σ', hq, hx.ext hE⟩
end Go.Abs
