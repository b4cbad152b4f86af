import Derived.Test.YtbeegandhppniaaAbsT
namespace Go.Abs
set_option linter.unusedVariables false
set_option linter.unusedSimpArgs false
set_option linter.unnecessarySimpa false
variable {DR : Prop}
theorem makeSlice_sound {P : Program} {T : Nat → Option TI} (hT : ∀ t i, T t = some i → tiOf P t = some i) {S : Nat → Nat → Prop} {β : Blocks} {w : World} {h h' : List AObj} (hi : HInv S β w h) {t : Nat} {l c d : D}
  (hd : makeSliceD T t h l c = some (d, h')) {vl vc : Value} (h1 : RelD S β w vl l) (h2 : RelD S β w vc c) :
  ∃ y w' β', (Instr.makeSlice t vl vc).run P w = .ok y w' ∧ Ext DR S β w S β' w' ∧ HInv S β' w' h' ∧ RelD S β' w' y d := by
 unfold makeSliceD at hd
 split at hd
 ·cases hd
 ·rename_i ti hti
  split at hd
  ·rename_i e n cc hke hn hcc
   split at hd
   ·cases hd
   ·rename_i i hie
    obtain ⟨info, desc, z, g1, g2, g3, g4, g5, g6, g7, g8, _⟩ := tiOf_spec (hT _ _ hti)
    obtain ⟨info', desc', z', k1, k2, k3, k4, k5, k6, k7, k8, _⟩ := tiOf_spec (hT _ _ hie)
    rw [hke] at g5
    have := tkOf_slice g5
    subst this
    obtain ⟨kl, rfl⟩ := natOf_spec hn h1
    obtain ⟨kc, rfl⟩ := natOf_spec hcc h2
    split at hd
    ·rename_i hc
     obtain ⟨c1, c2, c3, c4, c5, c6⟩ := hc
     have hrun := run_make (P := P) w t e info' z' g2 k1 k3 kl kc n cc (by omega) (by omega) (by rw [k8]; have : ((i.bytes * cc : Nat) : Int) ≤ 281474976710656 := (by rw [Nat.mul_comm]; omega); rwa [Int.natCast_mul] at this) (by unfold maxLen at c3; omega)
     simp only [Int.toNat_natCast, k7] at hrun
     have hz : RelV S w z' i.zero := ofValue_rel k4
     obtain ⟨z1, z2⟩ := hz.cells c5
     have hcell : ∀ q v, (madeCells z'.cells (cc * i.size))[q]? = some v → z'.cells[q % i.size]? = some v := by
      intro q v hq
      have hlt := (Array.getElem?_eq_some_iff.1 hq).1
      rw [size_madeCells] at hlt
      unfold madeCells at hq
      rw [Array.getElem?_map, Array.getElem?_range, if_pos hlt] at hq
      simp only [Option.map_some, Option.some.injEq] at hq
      have hm : q % z'.cells.size < z'.cells.size := Nat.mod_lt _ (by omega)
      rw [getElem!_pos z'.cells _ hm] at hq
      have e1 : z'.cells.size = i.size := by omega
      rw [← e1, Array.getElem?_eq_getElem hm, hq]
     have hkp := keeps_alloc hi (.cells (madeCells z'.cells (cc * i.size)) e) S (fun _ _ h => h)
     have row : ∀ (d : D) (h'' : List AObj), (d, h'') = (D.osl h.length 0 n false, h ++ [.row i.size (List.replicate n i.zero)]) →
       ∃ y w' β', (Instr.makeSlice t (.int kl n) (.int kc cc)).run P w = .ok y w' ∧ Ext DR S β w S β' w' ∧ HInv S β' w' h'' ∧ RelD S β' w' y d := by
      intro d h'' he
      obtain ⟨rfl, rfl⟩ := Prod.mk.inj he
      have f1 : ∀ (q : Nat) (x : V), (List.replicate n i.zero)[q]? = some x → x.solid = true ∧ x.cells.length = i.size := by
       intro q x hx
       have := List.mem_replicate.1 (List.mem_of_getElem? hx)
       rw [this.2]; exact ⟨c5, c6⟩
      have f2 : ∀ (q j : Nat) (x y : V) (v : Value), (List.replicate n i.zero)[q]? = some x → x.cells[j]? = some y → (madeCells z'.cells (cc * i.size))[q * i.size + j]? = some v → RelV S (w.alloc (.cells (madeCells z'.cells (cc * i.size)) e)) v y := by
       intro q j x y v hx hy hv
       have := List.mem_replicate.1 (List.mem_of_getElem? hx)
       rw [this.2] at hy
       have hj := lt_of_getElem? hy
       have := hcell _ _ hv
       rw [mod_mul_add (by omega)] at this
       exact RelV.mono hkp (z2 j v y this hy)
      obtain ⟨e1, e2⟩ := own_alloc (DR := DR) hi (madeCells z'.cells (cc * i.size)) e cc i.size (.row i.size (List.replicate n i.zero)) rfl
       ⟨rfl, c4, c3, by simp; omega, f1, _, e, heap_alloc_new w _, size_madeCells _ _, f2⟩
      exact ⟨_, _, _, hrun, e1, e2, .osl _ 0 n w.heap.size cc i.size 0 cc false (by rw [← hi.len]; simp) (by omega) (by simp) (by simp)⟩
     have mixed : ∀ (d : D) (h'' : List AObj), i.size = 1 → i.zero.scalar = true → (d, h'') = (D.osl h.length 0 n false, h ++ [.cells (List.replicate cc (.v i.zero))]) →
       ∃ y w' β', (Instr.makeSlice t (.int kl n) (.int kc cc)).run P w = .ok y w' ∧ Ext DR S β w S β' w' ∧ HInv S β' w' h'' ∧ RelD S β' w' y d := by
      intro d h'' hs1 hsc he
      obtain ⟨rfl, rfl⟩ := Prod.mk.inj he
      have f2 : ∀ (q : Nat) (v : Value) (x : D), (madeCells z'.cells (cc * i.size))[q]? = some v → (List.replicate cc (D.v i.zero))[q]? = some x → RelD S (β ++ [(w.heap.size, cc, 1)]) (w.alloc (.cells (madeCells z'.cells (cc * i.size)) e)) v x := by
       intro q v x hv hx
       have := List.mem_replicate.1 (List.mem_of_getElem? hx)
       rw [this.2]
       have hcl : i.zero.cells = [i.zero] := by
        cases hzz : i.zero <;> first | rfl | (rw [hzz] at hsc; cases hsc)
       have := hcell _ _ hv
       rw [hs1, Nat.mod_one] at this
       exact .v _ _ (RelV.mono hkp (z2 0 v i.zero this (by rw [hcl]; rfl)))
      obtain ⟨e1, e2⟩ := own_alloc (DR := DR) hi (madeCells z'.cells (cc * i.size)) e cc 1 (.cells (List.replicate cc (.v i.zero))) rfl
       ⟨rfl, c3, by simp, _, e, heap_alloc_new w _, by rw [size_madeCells, hs1, Nat.mul_one], f2⟩
      exact ⟨_, _, _, hrun, e1, e2, .osl _ 0 n w.heap.size cc 1 0 cc false (by rw [← hi.len]; simp) (by omega) (by simp) (by simp)⟩
     split at hd
     ·split at hd
      ·rename_i hs; exact mixed _ _ hs.1 hs.2 (Option.some.inj hd).symm
      ·cases hd
     ·split at hd
      ·rename_i hs; exact mixed _ _ hs.1 hs.2 (Option.some.inj hd).symm
      ·cases hd
     ·split at hd
      ·rename_i hs; exact mixed _ _ hs.1 hs.2 (Option.some.inj hd).symm
      ·cases hd
     ·exact row _ _ (Option.some.inj hd).symm
    ·cases hd
  ·cases hd
theorem run_indexAt {P : Program} {w : World} {t e : Nat} {i : TypeInfo} (ht : P.underlying t = some (.slice e)) (hi : P.info? e = some i) (a : Addr) (len cap : Nat) (k : IntKind) (j : Nat) (hj : j < len) :
  (Instr.indexAt t (.slice (some a) len cap) (.int k j)).run P w = .ok (.pointer (some (a.add (j * i.size)))) w := by
 simp only [Instr.indexAt, asIntOf, Sem.run_bind, Sem.run_pure, Result.andThen_ok, run_underlying ht]
 rw [if_pos (by omega)]
 simp only [Sem.run_bind, run_sizeOf hi, Result.andThen_ok, Sem.run_pure, Int.toNat_natCast]
theorem indexAddr_sound {P : Program} {T : Nat → Option TI} (hT : ∀ t i, T t = some i → tiOf P t = some i) {S : Nat → Nat → Prop} {β : Blocks} {w : World} {h : List AObj} (hi : HInv S β w h) {t : Nat} {x ix d : D}
  (hd : indexAddrH T h t x ix = some d) {v u : Value} (hv : RelD S β w v x) (hu : RelD S β w u ix) : ∃ y, (Instr.indexAt t v u).run P w = .ok y w ∧ RelD S β w y d := by
 unfold indexAddrH at hd
 split at hd
 ·rename_i r off len full
  split at hd
  ·cases hd
  ·rename_i ti hti
   split at hd
   ·rename_i e j hke hj
    obtain ⟨info, desc, z, g1, g2, g3, g4, g5, g6, g7, g8, _⟩ := tiOf_spec (hT _ _ hti)
    rw [hke] at g5
    have := tkOf_slice g5
    subst this
    obtain ⟨kj, rfl⟩ := natOf_spec hj hu
    split at hd
    ·rename_i hlt
     cases hv with
     | osl r off len b c k p cap full hb hlen hp hcap =>
     subst hp
     split at hd
     ·rename_i k0 k' es hk0 hes
      split at hd
      ·rename_i hkk
       subst hkk
       cases hd
       unfold sizeT at hk0
       obtain ⟨i, hie, rfl⟩ := Option.map_eq_some_iff.1 hk0
       obtain ⟨info', desc', z', k1, k2, k3, k4, k5, k6, k7, k8, _⟩ := tiOf_spec (hT _ _ hie)
       obtain ⟨o1, _⟩ := hi.obj r _ b c k hes hb
       refine ⟨_, run_indexAt g2 k1 _ len cap kj j hlt, ?_⟩
       rw [Addr.add_lit, k7]
       exact .eptr r (off + j) 0 b c k _ hb (by rw [← o1, Nat.add_mul, Nat.add_zero])
      ·cases hd
     ·rename_i hk0 hcs
      cases hd
      unfold sizeT at hk0
      obtain ⟨i, hie, hs1⟩ := Option.map_eq_some_iff.1 hk0
      obtain ⟨info', desc', z', k1, k2, k3, k4, k5, k6, k7, k8, _⟩ := tiOf_spec (hT _ _ hie)
      obtain ⟨o1, _⟩ := hi.obj r _ b c k hcs hb
      refine ⟨_, run_indexAt g2 k1 _ len cap kj j hlt, ?_⟩
      rw [Addr.add_lit, k7, hs1, o1, Nat.mul_one, Nat.mul_one]
      exact .ptr r (off + j) b c k hb
     ·rename_i k0 k' cs hk0 hcs
      split at hd
      ·rename_i hkk
       subst hkk
       cases hd
       unfold sizeT at hk0
       obtain ⟨i, hie, rfl⟩ := Option.map_eq_some_iff.1 hk0
       obtain ⟨info', desc', z', k1, k2, k3, k4, k5, k6, k7, k8, _⟩ := tiOf_spec (hT _ _ hie)
       obtain ⟨o1, _⟩ := hi.obj r _ b c k hcs hb
       refine ⟨_, run_indexAt g2 k1 _ len cap kj j hlt, ?_⟩
       rw [Addr.add_lit, k7, ← o1, ← Nat.add_mul]
       exact .ptr r ((off + j) * i.size) b c k hb
      ·cases hd
     ·cases hd
    ·cases hd
   ·cases hd
 ·unfold indexAddrD at hd
  split at hd
  ·cases hd
  ·rename_i ti hti
   split at hd
   ·rename_i e fl es j hke hj hne
    obtain ⟨info, desc, z, g1, g2, g3, g4, g5, g6, g7, g8, _⟩ := tiOf_spec (hT _ _ hti)
    rw [hke] at g5
    have := tkOf_slice g5
    subst this
    obtain ⟨kj, rfl⟩ := natOf_spec hj hu
    split at hd
    ·rename_i k0 x0 hk0 hx0
     split at hd
     ·rename_i hl
      rw [beq_iff_eq] at hl
      cases hd
      unfold sizeT at hk0
      obtain ⟨i, hie, rfl⟩ := Option.map_eq_some_iff.1 hk0
      obtain ⟨info', desc', z', k1, k2, k3, k4, k5, k6, k7, k8, _⟩ := tiOf_spec (hT _ _ hie)
      have hlt := lt_of_getElem? hx0
      have hvv := hv.of_v
      generalize hes : V.sl fl es = vsl at hvv
      cases hvv <;> try (cases hes; done)
      ·cases hes; simp at hlt
      ·cases hes; simp at hlt
      ·rename_i fl' b off cap k' n es' vals hn hnil hf hc hm hsol hs hr
       cases hes
       subst hn
       refine ⟨_, run_indexAt g2 k1 _ _ cap kj j hlt, ?_⟩
       have hk' : k' = i.size := by rw [← (hsol j x0 hx0).2, hl]
       rw [Addr.add_lit, k7, ← hk']
       refine .vptr b (off + j * k') x0.cells (fun q => vals (j * k' + q)) (fun q hq => ?_) (fun q y hy => hr j q x0 y hx0 hy)
       have := hs j q hlt (by omega)
       rw [← Nat.add_assoc] at this
       exact this
     ·cases hd
    ·cases hd
   ·cases hd
theorem fieldAddr_sound0 {P : Program} {T : Nat → Option TI} (hT : ∀ t i, T t = some i → tiOf P t = some i) {S : Nat → Nat → Prop} {β : Blocks} {w : World} {t f : Nat} {x d : D}
  (hnp : ∀ cs, x ≠ .v (.ptr cs)) (hd : fieldAddrD T t f x = some d) {v : Value} (hv : RelD S β w v x) : ∃ y, (Instr.fieldAt t v f).run P w = .ok y w ∧ RelD S β w y d := by
 unfold fieldAddrD at hd
 split at hd
 ·cases hd
 ·rename_i ti hti
  split at hd
  ·rename_i fs hkf
   obtain ⟨info, desc, z, g1, g2, g3, g4, g5, g6, g7, g8, _⟩ := tiOf_spec (hT _ _ hti)
   rw [hkf] at g5
   obtain ⟨fields, rfl, rfl, _⟩ := tkOf_struct g5
   split at hd
   ·cases hd
   ·rename_i o ft hf
    simp only [List.getElem?_map] at hf
    obtain ⟨fd, hfd, he⟩ := Option.map_eq_some_iff.1 hf
    cases he
    split at hd
    ·cases hd
    ·cases hd
    ·rename_i k hk
     unfold sizeT at hk
     obtain ⟨i, hie, hsz⟩ := Option.map_eq_some_iff.1 hk
     obtain ⟨info', desc', z', k1, k2, k3, k4, k5, k6, k7, k8, _⟩ := tiOf_spec (hT _ _ hie)
     have hrun : ∀ a : Addr, (Instr.fieldAt t (.pointer (some a)) f).run P w = .ok (.pointer (some (a.add fd.offset))) w := by
      intro a
      have hfd' : fields[f]? = some fd := by simpa using hfd
      simp [Instr.fieldAt, run_underlying g2, hfd', Instr.sureAddr, fieldPlace, run_sizeOf k1, k7, hsz]
     cases hv with
     | ptr r off b c k h => cases hd; exact ⟨_, hrun _, by rw [Addr.add_lit]; exact .ptr r _ b c k h⟩
     | eptr r q off b c k p h hp => cases hd; exact ⟨_, hrun _, by rw [Addr.add_lit]; exact .eptr r q _ b c k _ h (by omega)⟩
     | vptr b off cells vals hs hr =>
      cases hd
      refine ⟨_, hrun _, ?_⟩
      rw [Addr.add_lit]
      refine .vptr b (off + fd.offset) _ (fun q => vals (fd.offset + q)) (fun q hq => ?_) (fun q x hx => hr _ x (by rw [List.getElem?_drop] at hx; exact hx))
      have := hs (fd.offset + q) (by simp at hq; omega)
      rw [← Nat.add_assoc] at this
      exact this
     | v _ y h => cases y <;> first | (simp at hd; done) | exact absurd rfl (hnp _)
     | _ => simp at hd
  ·cases hd
theorem fieldAddr_sound {P : Program} {T : Nat → Option TI} (hT : ∀ t i, T t = some i → tiOf P t = some i) {S : Nat → Nat → Prop} {β : Blocks} {w : World} {t f : Nat} {x d : D}
  (hd : fieldAddrD T t f x = some d) {v : Value} (hv : RelD S β w v x) : ∃ y, (Instr.fieldAt t v f).run P w = .ok y w ∧ RelD S β w y d := by
 by_cases hp : ∃ cs, x = .v (.ptr cs)
 ·obtain ⟨cs, rfl⟩ := hp
  exact fieldAddr_sound0 (x := .vptr cs) hT (by simp) hd hv.of_v.as_vptr
 ·exact fieldAddr_sound0 hT (fun cs e => hp ⟨cs, e⟩) hd hv
theorem part_sound {P : Program} {S : Nat → Nat → Prop} {β : Blocks} {w : World} {t : Nat} {i : TI} (ht : tiOf P t = some i) {vs : Array Value} {cs : List D} (hl : vs.size = cs.length)
  (hr : ∀ (j : Nat) v x, vs[j]? = some v → cs[j]? = some x → RelD S β w v x) {off : Nat} {d : D} (hd : (cut cs off i.size).bind (mkOf i.kind.isAgg) = some d) : ∃ y, (part t vs off).run P w = .ok y w ∧ RelD S β w y d := by
 obtain ⟨info, desc, z, g1, g2, g3, g4, g5, g6, g7, g8, _⟩ := tiOf_spec ht
 obtain ⟨p, hp, hm⟩ := Option.bind_eq_some_iff.1 hd
 obtain ⟨c1, c2, c3⟩ := cut_spec hp
 rw [← g5] at g6 hm
 unfold part
 simp only [Sem.run_bind, run_isAgg g2 g6, Result.andThen_ok]
 cases hagg : (tkOf desc).isAgg with
 | true =>
  rw [hagg] at hm
  simp only [mkOf, if_true, Option.some.injEq] at hm
  subst hm
  simp only [if_true, Sem.run_bind, run_sizeOf g1, g7, Result.andThen_ok, Sem.run_pure]
  refine ⟨_, rfl, rel_mkAgg (by simp; omega) (fun j v x hv hx => ?_)⟩
  have hj := lt_of_getElem? hx
  rw [c3 j (by omega)] at hx
  rw [Array.getElem?_extract] at hv
  split at hv
  ·exact hr _ v x hv hx
  ·cases hv
 | false =>
  rw [hagg] at hm
  simp only [mkOf, Bool.false_eq_true, if_false] at hm
  cases p with
  | nil => cases hm
  | cons x r =>
   cases r with
   | cons _ _ => cases hm
   | nil =>
    simp only [Option.some.injEq] at hm
    subst hm
    have h0 := c3 0 (by simp at c1; omega)
    simp only [List.getElem?_cons_zero, Nat.add_zero] at h0
    have hlt := lt_of_getElem? h0.symm
    have hv : vs[off]? = some vs[off] := Array.getElem?_eq_getElem (by omega)
    simp only [Bool.false_eq_true, if_false, hv, Sem.run_pure]
    exact ⟨_, rfl, hr off _ x hv h0.symm⟩
theorem mkOf_cut_map {off n : Nat} {agg : Bool} (l : List V) : (cut (l.map D.v) off n).bind (mkOf agg) = ((cut l off n).bind (mkOfV agg)).map .v := by
 unfold cut
 simp only [List.length_map]
 split
 ·simp only [Option.bind_some, ← List.map_drop, ← List.map_take, mkOf_map]
 ·rfl
theorem field_sound {P : Program} {T : Nat → Option TI} (hT : ∀ t i, T t = some i → tiOf P t = some i) {S : Nat → Nat → Prop} {β : Blocks} {w : World} {t f : Nat} {x d : D}
  (hd : fieldD T t f x = some d) {v : Value} (hv : RelD S β w v x) : ∃ y, (Instr.field t v f).run P w = .ok y w ∧ RelD S β w y d := by
 unfold fieldD at hd
 split at hd
 ·cases hd
 ·rename_i ti hti
  split at hd
  ·rename_i fs hkf
   obtain ⟨info, desc, z, g1, g2, g3, g4, g5, g6, g7, g8, _⟩ := tiOf_spec (hT _ _ hti)
   rw [hkf] at g5
   obtain ⟨fields, rfl, rfl, _⟩ := tkOf_struct g5
   split at hd
   ·cases hd
   ·rename_i o ft hf
    simp only [List.getElem?_map] at hf
    obtain ⟨fd, hfd, he⟩ := Option.map_eq_some_iff.1 hf
    cases he
    have hfd' : fields[f]? = some fd := by simpa using hfd
    split at hd
    ·cases hd
    ·rename_i i hie
     have hrun : ∀ vs : Array Value, (Instr.field t (.agg vs) f).run P w = (part fd.type vs fd.offset).run P w := by
      intro vs
      simp [Instr.field, run_underlying g2, hfd', asAgg]
     split at hd
     ·rename_i cs
      have hvv := hv.of_v
      cases hvv with
      | agg vs cs hl hr =>
      have := part_sound (S := S) (β := β) (w := w) (hT _ _ hie) (vs := vs) (cs := cs.map .v) (by simpa using hl) (fun j v x hv hx => by
       simp only [List.getElem?_map] at hx
       obtain ⟨y, hy, rfl⟩ := Option.map_eq_some_iff.1 hx
       exact .v _ _ (hr j v y hv hy)) (off := fd.offset) (d := d) (by rw [mkOf_cut_map]; exact hd)
      obtain ⟨y, h1, h2⟩ := this
      exact ⟨y, by rw [hrun]; exact h1, h2⟩
     ·rename_i cs
      cases hv with
      | agg vs cs hl hr =>
      obtain ⟨y, h1, h2⟩ := part_sound (S := S) (β := β) (w := w) (hT _ _ hie) hl hr hd
      exact ⟨y, by rw [hrun]; exact h1, h2⟩
     ·cases hd
  ·cases hd
theorem index_sound {P : Program} {T : Nat → Option TI} (hT : ∀ t i, T t = some i → tiOf P t = some i) {S : Nat → Nat → Prop} {β : Blocks} {w : World} {t : Nat} {x ix d : D}
  (hd : indexD T t x ix = some d) {v u : Value} (hv : RelD S β w v x) (hu : RelD S β w u ix) : ∃ y, (Instr.index t v u).run P w = .ok y w ∧ RelD S β w y d := by
 unfold indexD at hd
 split at hd
 ·cases hd
 ·rename_i ti hti
  split at hd
  ·rename_i s j hks hj
   obtain ⟨info, desc, z, g1, g2, g3, g4, g5, g6, g7, g8, _⟩ := tiOf_spec (hT _ _ hti)
   rw [hks] at g5
   have := tkOf_str g5
   subst this
   obtain ⟨kj, rfl⟩ := natOf_spec hj hu
   cases hv.of_v
   split at hd
   ·rename_i b hb
    cases hd
    refine ⟨.int .u8 b.toNat, ?_, .v _ _ (.int _ _)⟩
    simp only [Instr.index, asIntOf, Sem.run_bind, Sem.run_pure, Result.andThen_ok, run_underlying g2]
    rw [if_pos (by omega)]
    simp [hb]
   ·cases hd
  ·cases hd
theorem len_sound {P : Program} {T : Nat → Option TI} (hT : ∀ t i, T t = some i → tiOf P t = some i) {S : Nat → Nat → Prop} {β : Blocks} {w : World} {t ty : Nat} {x d : D}
  (hd : lenD T t x = some d) {v : Value} (hv : RelD S β w v x) : ∃ y, (Builtin.len_ #[t] ty #[v]).run P w = .ok y w ∧ RelD S β w y d := by
 unfold lenD at hd
 split at hd
 ·cases hd
 ·rename_i ti hti
  obtain ⟨info, desc, z, g1, g2, g3, g4, g5, g6, g7, g8, _⟩ := tiOf_spec (hT _ _ hti)
  split at hd
  ·rename_i e fl es hk
   rw [hk] at g5
   have := tkOf_slice g5
   subst this
   cases hd
   have hlen : ∃ base c, v = .slice base es.length c := by
    have hvv := hv.of_v
    generalize hes : V.sl fl es = vsl at hvv
    cases hvv <;> try (cases hes; done)
    ·cases hes; exact ⟨_, _, rfl⟩
    ·cases hes; exact ⟨_, _, rfl⟩
    ·rename_i hn _ _ _ _ _ _ _
     cases hes; subst hn; exact ⟨_, _, rfl⟩
   obtain ⟨base, c, rfl⟩ := hlen
   exact ⟨_, by simp [Builtin.len_, run_underlying g2, goInt], .v _ _ (.int _ _)⟩
  ·rename_i e r off len full hk
   rw [hk] at g5
   have := tkOf_slice g5
   subst this
   cases hd
   cases hv
   exact ⟨_, by simp [Builtin.len_, run_underlying g2, goInt], .v _ _ (.int _ _)⟩
  ·rename_i s hk
   rw [hk] at g5
   have := tkOf_str g5
   subst this
   cases hd
   cases hv.of_v
   exact ⟨_, by simp [Builtin.len_, run_underlying g2, goInt], .v _ _ (.int _ _)⟩
  ·cases hd
end Go.Abs
