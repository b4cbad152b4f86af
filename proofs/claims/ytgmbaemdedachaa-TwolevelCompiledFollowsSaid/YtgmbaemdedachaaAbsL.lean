import Derived.Test.YtgmbaemdedachaaAbsG
import Derived.ProofKit
import Derived.Carry
import Derived.ChangeOld
namespace Go.Abs
open Go.ChangeShapes Go.WideShapes Go.ChangeAt Go.RowKit
set_option linter.unusedVariables false
set_option linter.unusedSimpArgs false
set_option linter.unnecessarySimpa false
variable {DR : Prop}
def typedAll (f : Nat → V → Prop) : List (Nat × Nat) → List V → Prop
 | [], [] => True
 | (_, t) :: fs, y :: ys => f t y ∧ typedAll f fs ys
 | _, _ => False
def typed (T : Nat → Option TI) : Nat → Nat → V → Prop
 | 0, _, _ => False
 | n + 1, t, x => match T t with
  | none => False
  | some i => match i.kind with
   | .bool => ∃ b, x = .bool b
   | .int k => ∃ m, x = .int k m ∧ (Lit.int k m).wf = true
   | .str => ∃ s, x = .str s ∧ s.size ≤ maxLen
   | .slice e => ∃ es, x = .sl .plain es ∧ es.length ≤ maxLen ∧ ∀ y ∈ es, typed T n e y
   | .struct fs => ∃ xs, x = .agg (xs.flatMap V.cells) ∧ typedAll (typed T n) fs xs
   | _ => False
def layout (T : Nat → Option TI) : Nat → List (Nat × Nat) → Option Nat
 | off, [] => some off
 | off, (o, t) :: r => match T t with
  | none => none
  | some i => if o = off then layout T (off + i.size) r else none
def lvl (T : Nat → Option TI) (L : List Nat) (t : Nat) : Bool := match T t with
 | none => false
 | some i => match i.kind with
  | .bool | .int _ | .str => i.size == 1
  | .slice e => i.size == 1 && L.contains e && (match sizeT T e with
   | some k => decide (0 < k)
   | none => false)
  | .struct fs => layout T 0 fs == some i.size && fs.all fun f => L.contains f.2
  | _ => false
theorem mapM_spec {α β : Type} {f : α → Option β} : ∀ {l : List α} {r : List β}, l.mapM f = some r → r.length = l.length ∧ ∀ (i : Nat) x y, l[i]? = some x → r[i]? = some y → f x = some y
 | [], r, h => by simp at h; subst h; simp
 | a :: l, r, h => by
  simp only [List.mapM_cons, Option.bind_eq_bind, Option.bind_eq_some_iff, Option.pure_def, Option.some.injEq] at h
  obtain ⟨b, hb, bs, hbs, rfl⟩ := h
  obtain ⟨h1, h2⟩ := mapM_spec hbs
  refine ⟨by simp [h1], fun i x y hx hy => ?_⟩
  cases i with
  | zero => simp at hx hy; subst hx; subst hy; exact hb
  | succ i => simp at hx hy; exact h2 i x y hx hy
theorem exists_list {α : Type} {p : Nat → α → Prop} : ∀ n, (∀ i, i < n → ∃ x, p i x) → ∃ xs : List α, xs.length = n ∧ ∀ (i : Nat) x, xs[i]? = some x → p i x
 | 0, _ => ⟨[], rfl, fun i x h => by simp at h⟩
 | n + 1, h => by
  obtain ⟨xs, h1, h2⟩ := exists_list n (fun i hi => h i om)
  obtain ⟨x, hx⟩ := h n om
  refine ⟨xs ++ [x], by simp [h1], fun i y hy => ?_⟩
  rcases (yF _ _ _ _).1 hy with ⟨h3, _⟩ | ⟨h3, h4⟩
  ·exact h2 i y h3
  ·subst h4; rw [h3, h1]; exact hx
def there (w : World) : Nat → Nat → Prop := fun b _ => b < w.heap.size
theorem glue {T : Nat → Option TI} {w : World} {cs : List Value} : ∀ (fs : List (Nat × Nat)) (xs : List V) (off total : Nat), layout T off fs = some total → xs.length = fs.length →
  (∀ (i : Nat) f y, fs[i]? = some f → xs[i]? = some y → y.solid = true ∧ sizeT T f.2 = some y.cells.length ∧ ∀ (j : Nat) u z, cs[f.1 + j]? = some u → y.cells[j]? = some z → RelV (there w) w u z) →
  off ≤ total ∧ (xs.flatMap V.cells).length = total - off ∧ (∀ z ∈ xs.flatMap V.cells, z.scalar = true) ∧ ∀ (j : Nat) u z, cs[off + j]? = some u → (xs.flatMap V.cells)[j]? = some z → RelV (there w) w u z
 | [], xs, off, total, hl, hn, h => by
  have : xs = [] := List.eq_nil_of_length_eq_zero (by simpa using hn)
  subst this
  simp only [layout, Option.some.injEq] at hl
  subst hl
  simp
 | (o, t) :: fs, [], off, total, hl, hn, h => by simp at hn
 | (o, t) :: fs, x :: xs, off, total, hl, hn, h => by
  simp only [layout] at hl
  split at hl
  ·cases hl
  ·rename_i i hi
   split at hl
   ·rename_i ho
    subst ho
    obtain ⟨s1, s2, s3⟩ := h 0 (o, t) x rfl rfl
    have hsz : i.size = x.cells.length := by simpa [sizeT, hi] using s2
    obtain ⟨g0, g1, g2, g3⟩ := glue fs xs (o + i.size) total hl (by simpa using hn) (fun q f y hf hy => h (q + 1) f y (by simpa using hf) (by simpa using hy))
    refine ⟨om, ?_, fun z hz => ?_, fun j u z hu hz => ?_⟩
    ·rw [List.flatMap_cons, List.length_append, g1]; omega
    ·rw [List.flatMap_cons] at hz
     rcases List.mem_append.1 hz with hz | hz
     ·exact solid_cells s1 hz
     ·exact g2 z hz
    ·rw [List.flatMap_cons, List.getElem?_append] at hz
     split at hz
     ·exact s3 j u z hu hz
     ·rename_i hj
      refine g3 (j - x.cells.length) u z ?_ hz
      rw [← hu]; congr 1; omega
   ·cases hl
theorem trod_scalar {T : Nat → Option TI} {w : World} {t : Nat} {u : Value} {x : V} (hr : RelV (there w) w u x) (hs : x.scalar = true) : x.solid = true ∧ x.cells = [x] := by
 cases x <;> first | exact ⟨rfl, rfl⟩ | cases hs
section
variable {H : Type} {enc : TypeId × Value → H} {P : Program} {w : World} {base : Nat} {sp : Nat → Bool} {held : Bool} {n t : Nat} {cs : List Value} {r : DataW H × List MemPlace}
theorem trod_bool (g : P.underlying t = some .bool) (h : DataW.trod enc P w base sp held (n + 1) t cs = some r) : ∃ b, cs = [.bool b] := by
 unfold DataW.trod at h
 rw [g] at h
 split at h <;> first | exact ⟨_, rfl⟩ | (exfalso; simp_all; done) | cases h
theorem trod_int {k : IntKind} (g : P.underlying t = some (.int k)) (h : DataW.trod enc P w base sp held (n + 1) t cs = some r) : ∃ m, cs = [.int k m] ∧ (Lit.int k m).wf = true := by
 unfold DataW.trod at h
 rw [g] at h
 split at h
 case h_2 k0 k' m heq =>
  cases heq
  split at h
  ·rename_i hw
   exact ⟨m, by rw [hw.1], hw.2⟩
  ·cases h
 all_goals first | (exfalso; simp_all; done) | cases h
theorem trod_str (g : P.underlying t = some .string) (h : DataW.trod enc P w base sp held (n + 1) t cs = some r) : ∃ s, cs = [.string s] ∧ s.size ≤ maxLen := by
 unfold DataW.trod at h
 rw [g] at h
 split at h
 case h_4 s heq =>
  split at h
  ·rename_i hw
   exact ⟨s, rfl, hw⟩
  ·cases h
 all_goals first | (exfalso; simp_all; done) | cases h
theorem trod_slice {e : Nat} (g : P.underlying t = some (.slice e)) (h : DataW.trod enc P w base sp held (n + 1) t cs = some r) : cs = [.slice none 0 0] ∨ ∃ a len cap, cs = [.slice (some a) len cap] ∧ len ≤ cap ∧ cap ≤ maxLen ∧
  ∃ elems, (List.range len).mapM (fun i => (w.cells? base (a.add (i * P.cellsOf e)) (P.cellsOf e)).bind (DataW.trod enc P w base sp held n e)) = some elems := by
 unfold DataW.trod at h
 rw [g] at h
 split at h
 case h_7 => exact .inl rfl
 case h_8 e0 a len cap heq =>
  cases heq
  split at h
  ·rename_i hc
   obtain ⟨elems, hel, _⟩ := Option.bind_eq_some_iff.1 h
   exact .inr ⟨a, len, cap, rfl, hc.2.1, hc.2.2, elems, hel⟩
  ·cases h
 all_goals first | (exfalso; simp_all; done) | cases h
end
variable {L : List Nat}
theorem of_trod {H : Type} {enc : TypeId × Value → H} {P : Program} {T : Nat → Option TI} (hT : ∀ t i, T t = some i → tiOf P t = some i) (hL : L.all (lvl T L) = true) {w : World} {base : Nat} {sp : Nat → Bool} {held : Bool} :
  ∀ (fuel t : Nat) (cs : List Value) (r : DataW H × List MemPlace), t ∈ L → DataW.trod enc P w base sp held fuel t cs = some r →
   ∃ x, typed T fuel t x ∧ x.solid = true ∧ x.cells.length = cs.length ∧ sizeT T t = some cs.length ∧ (∀ (j : Nat) u y, cs[j]? = some u → x.cells[j]? = some y → RelV (there w) w u y) := by
 intro fuel
 induction fuel with
 | zero => intro t cs r _ h; simp [DataW.trod] at h
 | succ n ih =>
  intro t cs r ht h
  have hl := zZ.1 hL t ht
  unfold lvl at hl
  cases hti : T t with
  | none => rw [hti] at hl; cases hl
  | some i =>
  rw [hti] at hl
  obtain ⟨info, desc, z, g1, g2, g3, g4, g5, g6, g7, g8, _⟩ := tiOf_spec (hT _ _ hti)
  simp only at hl
  have one : ∀ (u : Value) (x : V), i.size = 1 → cs = [u] → x.scalar = true → RelV (there w) w u x → typed T (n + 1) t x →
    ∃ x, typed T (n + 1) t x ∧ x.solid = true ∧ x.cells.length = cs.length ∧ sizeT T t = some cs.length ∧ (∀ (j : Nat) u y, cs[j]? = some u → x.cells[j]? = some y → RelV (there w) w u y) := by
   intro u x h1 hcs hsc hr hty
   obtain ⟨s1, s2⟩ := trod_scalar (T := T) (t := t) hr hsc
   subst hcs
   refine ⟨x, hty, s1, by rw [s2]; rfl, by simp [sizeT, hti, h1], fun j u' y hu hy => ?_⟩
   rw [s2] at hy
   cases j with
   | zero => simp at hu hy; subst hu; subst hy; exact hr
   | succ j => simp at hu
  split at hl
  ·rename_i hk
   rw [hk] at g5
   have := tkOf_bool g5
   subst this
   obtain ⟨b, rfl⟩ := trod_bool g2 h
   exact one (.bool b) (.bool b) (by simpa using hl) rfl rfl (.bool b) (by unfold typed; simp only [hti, hk]; exact ⟨b, rfl⟩)
  ·rename_i k hk
   rw [hk] at g5
   have := tkOf_int g5
   subst this
   obtain ⟨m, rfl, hw⟩ := trod_int g2 h
   exact one (.int _ m) (.int _ m) (by simpa using hl) rfl rfl (.int _ m) (by unfold typed; simp only [hti, hk]; exact ⟨m, rfl, hw⟩)
  ·rename_i hk
   rw [hk] at g5
   have := tkOf_str g5
   subst this
   obtain ⟨s, rfl, hw⟩ := trod_str g2 h
   exact one (.string s) (.str s) (by simpa using hl) rfl rfl (.str s) (by unfold typed; simp only [hti, hk]; exact ⟨s, rfl, hw⟩)
  ·rename_i e hk
   rw [hk] at g5
   have := tkOf_slice g5
   subst this
   simp only [Bool.and_eq_true, beq_iff_eq] at hl
   obtain ⟨⟨hl1, hl2⟩, hl3⟩ := hl
   have he : e ∈ L := by simpa using hl2
   cases hse : sizeT T e with
   | none => rw [hse] at hl3; cases hl3
   | some k =>
   rw [hse] at hl3
   have hk0 : 0 < k := by simpa using hl3
   have hce : P.cellsOf e = k := by
    unfold sizeT at hse
    obtain ⟨ie, hie, rfl⟩ := zB.1 hse
    obtain ⟨info', _, _, k1, _, _, _, _, _, k7, _⟩ := tiOf_spec (hT _ _ hie)
    unfold Program.cellsOf
    rw [k1]; simpa using k7
   rcases trod_slice g2 h with rfl | ⟨a, len, cap, rfl, hc2, hc3, elems, hel⟩
   ·exact one (.slice none 0 0) (.sl .plain []) hl1 rfl rfl (.slnil _ (by decide)) (by unfold typed; simp only [hti, hk]; exact ⟨[], rfl, Nat.zero_le _, fun y hy => by simp at hy⟩)
   ·clear h
    obtain ⟨m1, m2⟩ := mapM_spec hel
    simp only [List.length_range] at m1
    have hex : ∀ q, q < len → ∃ x, typed T n e x ∧ x.solid = true ∧ x.cells.length = k ∧ ∀ (j : Nat), j < k → ∃ u, w.cell? (a.add (q * k + j)) = some u ∧ ∀ y, x.cells[j]? = some y → RelV (there w) w u y := by
     intro q hq
     have hq' := m2 q q _ (List.getElem?_range hq) (zA om)
     obtain ⟨cq, hcq, htq⟩ := Option.bind_eq_some_iff.1 hq'
     obtain ⟨x, x1, x2, x3, x4, x5⟩ := ih e cq _ he htq
     have hlen : cq.length = k := by rw [hse] at x4; exact (zC x4).symm
     unfold World.cells? at hcq
     split at hcq
     ·obtain ⟨c1, c2⟩ := mapM_spec hcq
      refine ⟨x, x1, x2, om, fun j hj => ?_⟩
      have hu := c2 j j _ (List.getElem?_range (by rw [hce]; exact hj)) (zA om)
      rw [hce] at hu
      have hadd : (a.add (q * k)).add j = a.add (q * k + j) := by
       unfold Addr.add
       by_cases h1 : q * k = 0 <;> by_cases h2 : j = 0 <;> simp [h1, h2, Nat.add_assoc]
      rw [hadd] at hu
      exact ⟨_, hu, fun y hy => x5 j _ y (zA om) hy⟩
     ·cases hcq
    obtain ⟨xs, hxs, hall⟩ := exists_list len hex
    have hty : typed T (n + 1) t (.sl .plain xs) := by
     unfold typed
     simp only [hti, hk]
     refine ⟨xs, rfl, om, fun y hy => ?_⟩
     obtain ⟨q, hq⟩ := List.getElem?_of_mem hy
     exact (hall q y hq).1
    by_cases h0 : len = 0
    ·subst h0
     have : xs = [] := List.eq_nil_of_length_eq_zero hxs
     subst this
     exact one _ _ hl1 rfl rfl (.slemp .plain a cap (by decide) (fun h => by cases h) hc3) hty
    ·have hspot : a.spot = none := by
      obtain ⟨x, hx⟩ : ∃ x, xs[0]? = some x := ⟨_, zA om⟩
      obtain ⟨_, _, _, hc⟩ := hall 0 x hx
      obtain ⟨u, hu, _⟩ := hc 0 hk0
      have := World.cell?_spot hu
      simpa [Addr.add] using this
     obtain ⟨b, off, spot⟩ := a
     dsimp only at hspot
     subst hspot
     refine one _ _ hl1 rfl rfl (.sl .plain b off cap k len xs (fun q => (w.cell? ⟨b, off + q, none⟩).getD undef) hxs.symm (by decide) (fun h => by cases h) hc2 hc3 (fun q x hx => ⟨(hall q x hx).2.1, (hall q x hx).2.2.1⟩) (fun q j hq hj => ?_) (fun q j x y hx hy => ?_)) hty
     ·obtain ⟨x, hx⟩ : ∃ x, xs[q]? = some x := ⟨_, zA om⟩
      obtain ⟨u, hu, _⟩ := (hall q x hx).2.2.2 j hj
      rw [Addr.add_lit] at hu
      refine ⟨World.block_lt_of_cell? w _ hu, ?_⟩
      rw [hu]; rfl
     ·have hj := yE hy
      rw [(hall q x hx).2.2.1] at hj
      obtain ⟨u, hu, hr⟩ := (hall q x hx).2.2.2 j hj
      rw [Addr.add_lit] at hu
      have := hr y hy
      rw [hu]; exact this
  ·rename_i fs hk
   rw [hk] at g5
   obtain ⟨fields, rfl, rfl, _⟩ := tkOf_struct g5
   rw [Bool.and_eq_true, beq_iff_eq] at hl
   obtain ⟨hl1, hl2⟩ := hl
   have hcell : P.cellsOf t = i.size := by unfold Program.cellsOf; rw [g1]; simpa using g7
   have hstruct : ∃ xs, cs.length = P.cellsOf t ∧ fields.toList.mapM (fun f => DataW.trod enc P w base sp held n f.type ((cs.drop f.offset).take (P.cellsOf f.type))) = some xs := by
    unfold DataW.trod at h
    simp only [g2] at h
    split at h
    ·rename_i hlen
     obtain ⟨xs, hxs, _⟩ := zB.1 h
     exact ⟨xs, hlen, hxs⟩
    ·cases h
   obtain ⟨rs, hlen, hrs⟩ := hstruct
   obtain ⟨m1, m2⟩ := mapM_spec hrs
   have hex : ∀ q, q < fields.toList.length → ∃ x, ∀ f, fields.toList[q]? = some f → typed T n f.type x ∧ x.solid = true ∧ sizeT T f.type = some x.cells.length ∧ ∀ (j : Nat) u z, cs[f.offset + j]? = some u → x.cells[j]? = some z → RelV (there w) w u z := by
    intro q hq
    have hf := zA hq
    have hr := zA (l := rs) (i := q) om
    have hfm : (fields.toList[q]).type ∈ L := by
     have := zZ.1 hl2 ((fields.toList[q]).offset, (fields.toList[q]).type) (List.mem_map.2 ⟨_, List.getElem_mem hq, rfl⟩)
     simpa using this
    obtain ⟨x, x1, x2, x3, x4, x5⟩ := ih _ _ _ hfm (m2 q _ _ hf hr)
    refine ⟨x, fun f hf' => ?_⟩
    rw [hf] at hf'
    cases hf'
    refine ⟨x1, x2, by rw [x4, x3], fun j u z hu hz => ?_⟩
    have hj := yE hz
    rw [x3] at hj
    refine x5 j u z ?_ hz
    have hj' : j < P.cellsOf (fields.toList[q]).type := by simp only [zW] at hj; omega
    rw [yA, if_pos hj', zY]
    exact hu
   obtain ⟨xs, hxs, hall⟩ := exists_list _ hex
   obtain ⟨_, q1, q2, q3⟩ := glue (T := T) (w := w) (cs := cs) (fields.toList.map fun f => (f.offset, f.type)) xs 0 i.size hl1 (by simpa using hxs) (fun q f y hf hy => by
    simp only [zG] at hf
    obtain ⟨f', hf', rfl⟩ := zB.1 hf
    exact (hall q y hy f' hf').2)
   refine ⟨.agg (xs.flatMap V.cells), ?_, ?_, ?_, ?_, fun j u y hu hy => q3 j u y (by simpa using hu) hy⟩
   ·unfold typed
    simp only [hti, hk]
    refine ⟨xs, rfl, ?_⟩
    have : ∀ (fl : List Field) (ys : List V), ys.length = fl.length → (∀ (q : Nat) f y, fl[q]? = some f → ys[q]? = some y → typed T n f.type y) → typedAll (typed T n) (fl.map fun f => (f.offset, f.type)) ys := by
     intro fl
     induction fl with
     | nil => intro ys hy _; have : ys = [] := List.eq_nil_of_length_eq_zero (by simpa using hy); subst this; trivial
     | cons f fl ihf =>
      intro ys hy ha
      cases ys with
      | nil => simp at hy
      | cons y ys => exact ⟨ha 0 f y rfl rfl, ihf ys (by simpa using hy) (fun q f y hf hy => ha (q + 1) f y (by simpa using hf) (by simpa using hy))⟩
    exact this fields.toList xs hxs (fun q f y hf hy => (hall q y hy f hf).1)
   ·simp only [V.solid, zZ]
    exact q2
   ·show (xs.flatMap V.cells).length = cs.length
    rw [q1, hlen, hcell]; simp
   ·simp [sizeT, hti, hlen, hcell]
  ·cases hl
variable {p : List MemPlace}
theorem arg_of {H : Type} {enc : TypeId × Value → H} {P : Program} {T : Nat → Option TI} (hT : ∀ t i, T t = some i → tiOf P t = some i) (hL : L.all (lvl T L) = true) {w : World} {t : Nat} {v : Value} {d : DataW H} (ht : t ∈ L)
  {base : Nat} (hok : Value.okWide P w .any base t v) (h : DataW.Trod enc P w 0 (fun _ => true) true t v d p) : ∃ n x, typed T n t x ∧ RelV (there w) w v x := by
 obtain ⟨fuel, hf⟩ := h
 obtain ⟨x, x1, x2, x3, x4, x5⟩ := of_trod hT hL fuel t _ _ ht hf
 refine ⟨fuel, x, x1, ?_⟩
 cases fuel with
 | zero => exact x1.elim
 | succ n =>
 unfold typed at x1
 split at x1
 ·exact x1.elim
 ·rename_i i hti
  obtain ⟨info, desc, z, g1, g2, g3, g4, g5, g6, g7, g8, _⟩ := tiOf_spec (hT _ _ hti)
  have one : x.scalar = true → v.cells = #[v] → RelV (there w) w v x := by
   intro hs hv
   have hc : x.cells = [x] := by cases x <;> first | rfl | cases hs
   rw [hv, hc] at x5
   exact x5 0 v x rfl rfl
  split at x1
  ·rename_i hk
   rw [hk] at g5
   have := tkOf_bool g5
   subst this
   obtain ⟨b, rfl⟩ := x1
   obtain ⟨b', rfl⟩ := okWide_bool g2 hok
   exact one rfl rfl
  ·rename_i k hk
   rw [hk] at g5
   have := tkOf_int g5
   subst this
   obtain ⟨m, rfl, _⟩ := x1
   obtain ⟨m', rfl⟩ := okWide_int g2 hok
   exact one rfl rfl
  ·rename_i hk
   rw [hk] at g5
   have := tkOf_str g5
   subst this
   obtain ⟨s, rfl, _⟩ := x1
   obtain ⟨s', rfl⟩ := okWide_string g2 hok
   exact one rfl rfl
  ·rename_i e hk
   rw [hk] at g5
   have := tkOf_slice g5
   subst this
   obtain ⟨es, rfl, _⟩ := x1
   obtain ⟨a, l, c, rfl⟩ := okWide_slice g2 hok
   exact one rfl rfl
  ·rename_i fs hk
   rw [hk] at g5
   obtain ⟨fields, rfl, _⟩ := tkOf_struct g5
   obtain ⟨xs, rfl, _⟩ := x1
   simp only [Value.okWide, g2] at hok
   obtain ⟨cs, rfl, _⟩ := hok
   refine .agg cs _ ?_ (fun j u y hu hy => x5 j u y (by simpa [Value.cells] using hu) hy)
   have h3 : (xs.flatMap V.cells).length = cs.toList.length := x3
   rw [h3]; simp
  ·exact x1.elim
def TypedL (T : Nat → Option TI) : List Nat → List V → Prop
 | [], [] => True
 | t :: ts, x :: xs => (∃ n, typed T n t x) ∧ TypedL T ts xs
 | _, _ => False
theorem args_of {H : Type} {enc : TypeId × Value → H} {P : Program} {T : Nat → Option TI} (hT : ∀ t i, T t = some i → tiOf P t = some i) {L : List Nat} (hL : L.all (lvl T L) = true) {w : World} {base : Nat} : ∀ (ts : List Nat) (vs : List Value) (ds : List (DataW H)) (ps : List MemPlace),
  (∀ t ∈ ts, t ∈ L) → (∀ (j : Nat) t v, ts[j]? = some t → vs[j]? = some v → Value.okWide P w .any base t v) → DataW.TrodAll enc P w 0 (fun _ => true) true ts vs ds ps → ∃ xs, TypedL T ts xs ∧ vs.length = xs.length ∧ ∀ (i : Nat) v x, vs[i]? = some v → xs[i]? = some x → RelV (there w) w v x
 | [], vs, ds, ps, _, _, h => by
  cases vs <;> cases ds <;> simp [DataW.TrodAll] at h
  exact ⟨[], trivial, rfl, fun i v x h => by simp at h⟩
 | t :: ts, vs, ds, ps, hl, hok, h => by
  obtain ⟨v, vs', d, ds', p, q, rfl, rfl, rfl, h1, h2⟩ := trodAll_cons h
  obtain ⟨n, x, x1, x2⟩ := arg_of hT hL (hl t zH) (hok 0 t v rfl rfl) h1
  obtain ⟨xs, y1, y2, y3⟩ := args_of hT hL ts vs' ds' q (fun t ht => hl t (zF _ ht)) (fun j t v ht hv => hok (j + 1) t v (by simpa using ht) (by simpa using hv)) h2
  refine ⟨x :: xs, ⟨⟨n, x1⟩, y1⟩, by simp [y2], fun i u z hu hz => ?_⟩
  cases i with
  | zero => simp at hu hz; subst hu; subst hz; exact x2
  | succ i => simp at hu hz; exact y3 i u z hu hz
theorem trodAll_stays {H : Type} {enc : TypeId × Value → H} {P : Program} (hl : laidOutB P = true) {W W' : World} (hb : Below W.heap.size W W') : ∀ (ts : List Nat) (vs : List Value) (ds : List (DataW H)) (ps : List MemPlace),
  (∀ t ∈ ts, P.readableRec t = true ∧ t < P.types.size) → DataW.TrodAll enc P W 0 (fun _ => true) true ts vs ds ps → DataW.TrodAll enc P W' 0 (fun b => decide (b < W.heap.size)) true ts vs ds ps
 | [], vs, ds, ps, _, h => by cases vs <;> cases ds <;> simp [DataW.TrodAll] at h ⊢; exact h
 | t :: ts, vs, ds, ps, hr, h => by
  obtain ⟨v, vs', d, ds', p, q, rfl, rfl, rfl, h1, h2⟩ := trodAll_cons h
  have hlt : ∀ x ∈ p, x.block < W.heap.size := by obtain ⟨m, hm⟩ := h1; exact DataW.trod_lt m _ _ _ hm
  obtain ⟨r1, r2⟩ := hr t zH
  exact ⟨p, q, Below.trod hl r1 r2 h1 hb hlt, trodAll_stays hl hb ts vs' ds' q (fun t ht => hr t (zF _ ht)) h2, rfl⟩
variable {W : World} {args : Array Value} {f : FuncId} {fn : Func} {s : ChangeSpec}
theorem law_contract1 {P : Program} {E : Env} (hG : Good DR P E) (hlaid : laidOutB P = true) (hb : ∃ tb, fn.resultTypes = #[tb] ∧ P.underlying tb = some .bool)
  (hp : ∀ t ∈ fn.params.toList, t ∈ L ∧ P.readableRec t = true ∧ t < P.types.size) (hs : s.vars = []) (hfn : ∀ (H : Type) (ds : List (DataW H)), ds.length = fn.params.size → s.fn H (ds ++ []) = { results := [.lit (.bool true)], args := ds })
  {H : Type} {enc : TypeId × Value → H} {ds : List (DataW H)} {xs : List V} {n : Nat}
  (hr : runV P E n f xs = some (.bool true)) (hgl : Glob (there W) W) (t2 : args.toList.length = xs.length) (t3 : ∀ (i : Nat) v x, args.toList[i]? = some v → xs[i]? = some x → RelV (there W) W v x)
  (hW' : DataW.Whole enc P fn.params.toList s.vars false W args.toList ds [] (p ++ [])) (hA : DataW.TrodAll enc P W 0 (fun _ => true) true fn.params.toList args.toList ds p) :
  Calls P f args W fun e W' => ∃ v, e = .returned v ∧ s.post enc P fn false true false false W args v W' := by
 obtain ⟨tb, hb1, hb2⟩ := hb
 have hrel : RelL (there W) [] W args (xs.map .v) := by
  refine ⟨by simpa using t2, fun i v d hv hd => ?_⟩
  simp only [zG] at hd
  obtain ⟨x, hx, rfl⟩ := zB.1 hd
  exact .v _ _ (t3 i v x (by simpa using hv) hx)
 refine (runV_sound hG hr (S := there W) (fun _ _ h => h) hgl hrel).mono ?_
 rintro e W' ⟨v, S', rfl, hR, hBel, _⟩
 cases hR
 have hlen : ∀ (ts : List Nat) (vs : List Value) (ds : List (DataW H)) (ps : List MemPlace), DataW.TrodAll enc P W 0 (fun _ => true) true ts vs ds ps → ds.length = ts.length := by
  intro ts
  induction ts with
  | nil => intro vs ds ps h; cases vs <;> cases ds <;> simp [DataW.TrodAll] at h ⊢
  | cons t ts iht =>
   intro vs ds ps h
   obtain ⟨v, vs', d, ds', p, q, rfl, rfl, rfl, h1, h2⟩ := trodAll_cons h
   simp [iht _ _ _ h2]
 refine ⟨_, rfl, ds, [], p ++ [], [], p, [], hW', ?_, ?_, ?_, hBel.frame _, fun h => by cases h⟩
 ·rw [hfn H ds (by simpa using hlen _ _ _ _ hA), hb1]
  exact trodAll_mk1 (shut_bool hb2 true)
 ·rw [hfn H ds (by simpa using hlen _ _ _ _ hA)]
  exact trodAll_stays hlaid hBel _ _ _ _ (fun t ht => (hp t ht).2) hA
 ·have hv : (s.fn H (ds ++ [])).vars = [] := by rw [hfn H ds (by simpa using hlen _ _ _ _ hA)]
  rw [hs, hv]; rfl
theorem law_contract {P : Program} {E : Env} (hG : Good DR P E) (hL : L.all (lvl E.T L) = true) (hlaid : laidOutB P = true) (hb : ∃ tb, fn.resultTypes = #[tb] ∧ P.underlying tb = some .bool)
  (hp : ∀ t ∈ fn.params.toList, t ∈ L ∧ P.readableRec t = true ∧ t < P.types.size) (hs : s.vars = []) (hfn : ∀ (H : Type) (ds : List (DataW H)), ds.length = fn.params.size → s.fn H (ds ++ []) = { results := [.lit (.bool true)], args := ds })
  {H : Type} {enc : TypeId × Value → H} {base : Nat} {ds gs : List (DataW H)} {before : List MemPlace}
  (hrun : ∀ xs, TypedL E.T fn.params.toList xs → ∃ n, runV P E n f xs = some (.bool true)) (hgl : Glob (there W) W)
  (hval : ∀ (j : Nat) t v, fn.params[j]? = some t → args[j]? = some v → Value.okWide P W .any base t v) (hW : DataW.Whole enc P fn.params.toList s.vars false W args.toList ds gs before) :
  Calls P f args W fun e W' => ∃ v, e = .returned v ∧ s.post enc P fn false true false false W args v W' := by
 have hW' := hW
 obtain ⟨p, q, hA, hV, rfl, hfz, hnd⟩ := hW
 rw [hs] at hV
 obtain ⟨rfl, rfl⟩ := trodVars_none hV
 obtain ⟨xs, t1, t2, t3⟩ := args_of hG.types hL fn.params.toList args.toList ds p (fun t ht => (hp t ht).1) (fun j t v ht hv => hval j t v (by simpa using ht) (by simpa using hv)) hA
 obtain ⟨n, hr⟩ := hrun xs t1
 exact law_contract1 hG hlaid hb hp hs hfn hr hgl t2 t3 hW' hA
end Go.Abs
