import Derived.Test.YtbeegandhppniaaAbsO
import Derived.Great.BuildSlice
namespace Go.Abs
set_option linter.unusedVariables false
set_option linter.unusedSimpArgs false
set_option linter.unnecessarySimpa false
variable {DR : Prop}
def spliceA (cur : Array Value) (off : Nat) (vs : List Value) : Array Value := (cur.toList.take off ++ vs ++ cur.toList.drop (off + vs.length)).toArray
theorem spliceA_size {cur : Array Value} {off : Nat} {vs : List Value} (h : off + vs.length ≤ cur.size) : (spliceA cur off vs).size = cur.size := by
 simp [spliceA]; omega
theorem splice_get {α : Type} {l : List α} {off : Nat} {x : List α} (h : off + x.length ≤ l.length) (j : Nat) :
  (l.take off ++ x ++ l.drop (off + x.length))[j]? = if off ≤ j ∧ j < off + x.length then x[j - off]? else l[j]? := by
 rw [List.append_assoc, List.getElem?_append, List.length_take, Nat.min_eq_left (by omega)]
 by_cases h1 : j < off
 ·rw [if_pos h1, if_neg (by omega), List.getElem?_take, if_pos h1]
 ·rw [if_neg h1, List.getElem?_append]
  by_cases h2 : j - off < x.length
  ·rw [if_pos h2, if_pos (by omega)]
  ·rw [if_neg h2, if_neg (by omega), List.getElem?_drop]
   congr 1; omega
theorem spliceA_get {cur : Array Value} {off : Nat} {vs : List Value} (h : off + vs.length ≤ cur.size) (j : Nat) :
  (spliceA cur off vs)[j]? = if off ≤ j ∧ j < off + vs.length then vs[j - off]? else cur[j]? := by
 have := splice_get (l := cur.toList) (off := off) (x := vs) (by simpa using h) j
 simpa [spliceA] using this
theorem splice_spec {α : Type} {l r : List α} {off : Nat} {x : List α} (h : splice l off x = some r) : off + x.length ≤ l.length ∧ r.length = l.length ∧ ∀ j : Nat, r[j]? = if off ≤ j ∧ j < off + x.length then x[j - off]? else l[j]? := by
 unfold splice at h
 split at h
 ·rename_i hle
  cases h
  exact ⟨hle, by simp; omega, splice_get hle⟩
 ·cases h
theorem run_store_own {P : Program} {w : World} {b off : Nat} {cur : Array Value} {e : TypeId} {vs : List Value} (hg : w.heap[b]? = some (.cells cur e (0, 0))) (hl : off + vs.length ≤ cur.size) (h1 : ∀ v ∈ vs, v.oneCell' = true) :
  (storeCells ⟨b, off, none⟩ vs).run P w = .ok () (w.setRow b (spliceA cur off vs)) := by
 have := run_storeCells_at P b off e vs 0 cur w hg (by simpa using hl) h1
 simpa [spliceA] using this
theorem mul_lt_of {i q k j : Nat} (h : i < q) (hj : j < k) : i * k + j < q * k := by
 have : (i + 1) * k ≤ q * k := Nat.mul_le_mul_right _ h
 rw [Nat.add_mul] at this
 omega
theorem storeV_spec {e y e' : V} {off k : Nat} (h : storeV e y off = some e') (hk : e.cells.length = k) (hs : e.solid = true) (hk' : e'.cells.length = k) (hy : y.solid = true) :
  off + y.cells.length ≤ k ∧ ∀ j : Nat, e'.cells[j]? = if off ≤ j ∧ j < off + y.cells.length then y.cells[j - off]? else e.cells[j]? := by
 unfold storeV at h
 split at h
 ·rename_i cs
  obtain ⟨r, hr, rfl⟩ := Option.map_eq_some_iff.1 h
  obtain ⟨h1, h2, h3⟩ := splice_spec hr
  exact ⟨by simp [V.cells] at hk; omega, h3⟩
 ·rename_i hne
  split at h
  ·rename_i h0
   obtain rfl : y = e' := by simpa using h
   subst h0
   refine ⟨by omega, fun j => ?_⟩
   split
   ·simp
   ·rename_i hh
    rw [List.getElem?_eq_none (by omega), List.getElem?_eq_none (by omega)]
  ·cases h
theorem storeD_sound {P : Program} {S : Nat → Nat → Prop} {β : Blocks} {w : World} {h h' : List AObj} (hi : HInv S β w h) {t : Nat} {i : TI} (ht : tiOf P t = some i) {p x : D} (hd : storeD i h p x = some h')
  {v u : Value} (hv : RelD S β w v p) (hu : RelD S β w u x) : ∃ w', (Instr.storeAt t v u).run P w = .ok () w' ∧ Ext DR S β w S β w' ∧ HInv S β w' h' := by
 obtain ⟨info, desc, z, g1, g2, g3, g4, g5, g6, g7, g8, _⟩ := tiOf_spec ht
 unfold storeD at hd
 split at hd
 ·rename_i hc
  rw [Bool.and_eq_true, beq_iff_eq] at hc
  obtain ⟨hsol, hlen⟩ := hc
  obtain ⟨c1, c2⟩ := hu.cells hsol
  have c3 := hu.cells_one hsol
  have hrun0 : ∀ (b off : Nat) (cur : Array Value) (e : TypeId), w.heap[b]? = some (.cells cur e (0, 0)) → off + x.cells.length ≤ cur.size →
    (Instr.storeAt t (.pointer (some ⟨b, off, none⟩)) u).run P w = .ok () (w.setRow b (spliceA cur off u.cells.toList)) := by
   intro b off cur e hg hle
   have := run_store_own (P := P) (w := w) (off := off) (vs := u.cells.toList) hg (by simp [c1]; omega) c3
   simp [Instr.storeAt, Instr.sureAddr, storeVar, run_sizeOf g1, g7, c1, hlen, this]
  cases hv with
  | ptr r off b c k hb =>
   simp only at hd
   split at hd
   ·rename_i cs hcs
    obtain ⟨cs', hsp, rfl⟩ := Option.map_eq_some_iff.1 hd
    obtain ⟨s1, s2, s3⟩ := splice_spec hsp
    obtain ⟨o1, o2, o3, cur, e, o4, o5, o6⟩ := hi.obj r _ b c k hcs hb
    refine ⟨_, hrun0 b off cur e o4 (by omega), ?_⟩
    refine own_write (DR := DR) hi hcs rfl hb (by simp) (fun j hj => setRow_other w b j _ hj) rfl rfl rfl (Nat.le_refl _) rfl (fun hk => ?_)
    refine ⟨o1, o2, by omega, _, e, setRow_heap w b cur _ e _ o4, by rw [spliceA_size (by simp [c1]; omega)]; exact o5, fun j v' d' hv' hd' => ?_⟩
    rw [spliceA_get (by simp [c1]; omega)] at hv'
    rw [s3] at hd'
    simp only [Array.length_toList, c1] at hv'
    have : RelD S β w v' d' := by
     by_cases hin : off ≤ j ∧ j < off + x.cells.length
     ·rw [if_pos hin] at hv' hd'
      exact c2 (j - off) v' d' (by simpa using hv') hd'
     ·rw [if_neg hin] at hv' hd'
      exact o6 j v' d' hv' hd'
    exact this.mono hk (fun _ _ h => h)
   ·rename_i k0 cs hcs
    obtain ⟨cs', hsp, rfl⟩ := Option.map_eq_some_iff.1 hd
    obtain ⟨s1, s2, s3⟩ := splice_spec hsp
    obtain ⟨o1, o0, o2, o3, cur, e, o4, o5, o6⟩ := hi.obj r _ b c k hcs hb
    refine ⟨_, hrun0 b off cur e o4 (by omega), ?_⟩
    refine own_write (DR := DR) hi hcs rfl hb (by simp) (fun j hj => setRow_other w b j _ hj) rfl rfl rfl (Nat.le_refl _) rfl (fun hk => ?_)
    refine ⟨o1, o0, o2, by omega, _, e, setRow_heap w b cur _ e _ o4, by rw [spliceA_size (by simp [c1]; omega)]; exact o5, fun j v' d' hv' hd' => ?_⟩
    rw [spliceA_get (by simp [c1]; omega)] at hv'
    rw [s3] at hd'
    simp only [Array.length_toList, c1] at hv'
    have : RelD S β w v' d' := by
     by_cases hin : off ≤ j ∧ j < off + x.cells.length
     ·rw [if_pos hin] at hv' hd'
      exact c2 (j - off) v' d' (by simpa using hv') hd'
     ·rw [if_neg hin] at hv' hd'
      exact o6 j v' d' hv' hd'
    exact this.mono hk (fun _ _ h => h)
   ·cases hd
  | eptr r q off b c k p hb hp =>
   subst hp
   simp only at hd
   split at hd
   ·rename_i k' es y hes
    split at hd
    ·rename_i el hel
     split at hd
     ·rename_i el' hel'
      split at hd
      ·rename_i hck
       cases hd
       rw [Bool.and_eq_true, beq_iff_eq] at hck
       obtain ⟨o1, o2, o3, o4, o5, cur, e, o6, o7, o8⟩ := hi.obj r _ b c k hes hb
       subst o1
       have hq : q < es.length := lt_of_getElem? hel
       have hyl : (D.v y).cells.length = y.cells.length := by simp [D.cells]
       obtain ⟨t1, t2⟩ := storeV_spec hel' (o5 q el hel).2 (o5 q el hel).1 hck.1 (by simpa [D.solid] using hsol)
       have hqk := mul_lt_of (k := k') (j := k' - 1) (show q < c by omega) (by omega)
       have hle : q * k' + off + (D.v y).cells.length ≤ cur.size := by
        have : (q + 1) * k' ≤ c * k' := Nat.mul_le_mul_right _ (by omega)
        rw [Nat.add_mul] at this
        rw [hyl, o7]; omega
       refine ⟨_, hrun0 b (q * k' + off) cur e o6 hle, ?_⟩
       refine own_write (DR := DR) hi hes rfl hb (by simp) (fun j hj => setRow_other w b j _ hj) rfl rfl rfl (Nat.le_refl _) rfl (fun hk => ?_)
       have hsz : q * k' + off + u.cells.toList.length ≤ cur.size := by simp only [Array.length_toList, c1]; exact hle
       refine ⟨rfl, o2, o3, by simpa using o4, fun m z hz => ?_, _, e, setRow_heap w b cur _ e _ o6, by rw [spliceA_size hsz]; exact o7, fun m j z y' v' hz hy' hv' => ?_⟩
       ·rw [List.getElem?_set] at hz
        split at hz
        ·cases hz; exact ⟨hck.2, hck.1⟩
        ·exact o5 m z hz
       ·rw [spliceA_get hsz] at hv'
        simp only [Array.length_toList, c1, hyl] at hv'
        have : RelV S w v' y' := by
         rw [List.getElem?_set] at hz
         by_cases hmq : q = m
         ·subst hmq
          rw [if_pos rfl] at hz
          split at hz
          ·cases hz
           rw [t2] at hy'
           by_cases hin : off ≤ j ∧ j < off + y.cells.length
           ·rw [if_pos (by omega)] at hv'
            rw [if_pos hin] at hy'
            have e1 : q * k' + j - (q * k' + off) = j - off := by omega
            rw [e1] at hv'
            exact (c2 (j - off) v' (.v y') (by simpa using hv') (by simp [D.cells, hy'])).of_v
           ·rw [if_neg (by omega)] at hv'
            rw [if_neg hin] at hy'
            exact o8 q j el y' v' hel hy' hv'
          ·exact absurd hq ‹_›
         ·rw [if_neg hmq] at hz
          have hj : j < k' := by have := lt_of_getElem? hy'; have := (o5 m z hz).2; omega
          have hnot : ¬ (q * k' + off ≤ m * k' + j ∧ m * k' + j < q * k' + off + y.cells.length) := by
           rcases Nat.lt_or_ge m q with hlt | hge
           ·have := mul_lt_of (k := k') hlt hj; omega
           ·have := mul_lt_of (k := k') (j := k' - 1) (show q < m by omega) (by omega); omega
          rw [if_neg hnot] at hv'
          exact o8 m j z y' v' hz hy' hv'
        exact this.mono hk
      ·cases hd
     ·cases hd
    ·cases hd
   ·cases hd
  | _ => simp at hd
 ·cases hd
theorem ofScalar_scalar {v : Value} {x : V} (h : ofScalar v = some x) : x.scalar = true := by
 unfold ofScalar at h
 split at h <;> cases h <;> rfl
theorem ofValue_solid {v : Value} {x : V} (h : ofValue v = some x) : x.solid = true := by
 unfold ofValue at h
 split at h
 ·rename_i cs
  split at h
  ·rename_i xs hx
   cases h
   obtain ⟨h1, h2⟩ := ofScalars_spec hx
   simp only [V.solid, List.all_eq_true]
   intro y hy
   obtain ⟨j, hj⟩ := List.getElem?_of_mem hy
   have hlt := lt_of_getElem? hj
   exact ofScalar_scalar (h2 j _ y (List.getElem?_eq_getElem (by omega)) hj)
  ·cases h
 ·have := ofScalar_scalar h
  cases x <;> first | rfl | (simp [V.scalar] at this)
theorem box_own {S : Nat → Nat → Prop} {β : Blocks} {w : World} {h : List AObj} (hi : HInv S β w h) (e : TypeId) (v : Value) (d : D) (hs : d.solid = true) (hm : d.cells.length ≤ maxLen) (hv : RelD S β w v d) :
  ∃ β', Ext DR S β w S β' (w.alloc (.cells v.cells e)) ∧ HInv S β' (w.alloc (.cells v.cells e)) (h ++ [.cells d.cells]) ∧ RelD S β' (w.alloc (.cells v.cells e)) (.pointer (some ⟨w.heap.size, 0, none⟩)) (.ptr h.length 0) := by
 obtain ⟨c1, c2⟩ := hv.cells hs
 have hk := keeps_alloc hi (.cells v.cells e) S (fun _ _ h => h)
 have hp : ∀ (r : Nat) x, β[r]? = some x → (β ++ [(w.heap.size, d.cells.length, 1)])[r]? = some x := fun r x hx => (getElem?_snoc _ _ _ _).2 (.inl ⟨hx, lt_of_getElem? hx⟩)
 obtain ⟨e1, e2⟩ := own_alloc (DR := DR) hi v.cells e d.cells.length 1 (.cells d.cells) rfl
  ⟨rfl, hm, rfl, v.cells, e, heap_alloc_new w _, c1, fun j u y hu hy => (c2 j u y hu hy).mono hk hp⟩
 exact ⟨_, e1, e2, .ptr _ 0 w.heap.size d.cells.length 1 (by rw [← hi.len]; simp)⟩
theorem fill_sound {S : Nat → Nat → Prop} {β : Blocks} {w : World} (place : Nat → Option (Nat × Nat)) : ∀ (parts : List (Nat × Value)) (dparts : List (Nat × D)) (cells : Array Value) (dcells : List D) (r : List D),
  parts.length = dparts.length → (∀ (i : Nat) p q, parts[i]? = some p → dparts[i]? = some q → p.1 = q.1 ∧ RelD S β w p.2 q.2) →
  cells.size = dcells.length → (∀ (i : Nat) (v : Value) (x : D), cells[i]? = some v → dcells[i]? = some x → RelD S β w v x) →
  fillD place dcells dparts = some r → ∃ cs, Instr.fill place cells parts = some cs ∧ cs.size = r.length ∧ ∀ (i : Nat) (v : Value) (x : D), cs[i]? = some v → r[i]? = some x → RelD S β w v x
 | [], [], cells, dcells, r, _, _, hl, hr, hf => by
  simp only [fillD, Option.some.injEq] at hf
  subst hf
  exact ⟨cells, rfl, hl, hr⟩
 | p :: ps, q :: qs, cells, dcells, r, hpl, hpq, hl, hr, hf => by
  obtain ⟨n, v⟩ := p
  obtain ⟨m, d⟩ := q
  have h0 := hpq 0 (n, v) (m, d) rfl rfl
  obtain ⟨hnm, hvd⟩ := h0
  dsimp only at hnm hvd
  subst hnm
  simp only [fillD] at hf
  split at hf
  ·cases hf
  ·rename_i off size hpl'
   split at hf
   ·rename_i hc
    rw [Bool.and_eq_true, beq_iff_eq] at hc
    split at hf
    ·rename_i cs' hsp
     obtain ⟨s1, s2, s3⟩ := splice_spec hsp
     obtain ⟨c1, c2⟩ := hvd.cells hc.1
     obtain ⟨g1, g2⟩ := Great.foldl_set off v.cells.toList 0 cells
     have hstep : Instr.fill place cells ((n, v) :: ps) = Instr.fill place ((v.cells.toList.zipIdx 0).foldl (fun cs (x : Value × Nat) => cs.setIfInBounds (off + x.2) x.1) cells) ps := by
      rw [Instr.fill]
      simp only [hpl']
      rw [if_neg (show ¬ (decide (v.cells.size ≠ size) || decide (off + v.cells.size > cells.size)) = true by simp; omega)]
      congr 1
      rw [← Array.foldl_toList, Array.toList_zipIdx]
     rw [hstep]
     refine fill_sound place ps qs _ cs' r (by simpa using hpl) (fun i p q hp hq => hpq (i + 1) p q (by simpa using hp) (by simpa using hq)) (by rw [g1]; omega) (fun i u x hu hx => ?_) hf
     rw [g2 i] at hu
     rw [s3] at hx
     simp only [Nat.add_zero, Array.length_toList, c1] at hu
     by_cases hin : off ≤ i ∧ i < off + d.cells.length
     ·rw [if_pos ⟨hin.1, hin.2, by omega⟩] at hu
      rw [if_pos hin] at hx
      exact c2 (i - off) u x (by simpa using hu) hx
     ·rw [if_neg (fun hh => hin ⟨hh.1, hh.2.1⟩)] at hu
      rw [if_neg hin] at hx
      exact hr i u x hu hx
    ·cases hf
   ·cases hf
 | [], _ :: _, _, _, _, hpl, _, _, _, _ => by simp at hpl
 | _ :: _, [], _, _, _, hpl, _, _, _, _ => by simp at hpl
theorem places_spec {P : Program} {T : Nat → Option TI} (hT : ∀ t i, T t = some i → tiOf P t = some i) : ∀ (fs : List Field) (ps : List (Nat × Nat)), places T (fs.map fun f => (f.offset, f.type)) = some ps →
  fs.mapM (fun f => (P.info? f.type).map fun i => (f.offset, i.size)) = some ps
 | [], ps, h => by simp [places] at h; subst h; rfl
 | f :: fs, ps, h => by
  simp only [List.map_cons, places] at h
  split at h
  ·rename_i s qs hs hqs
   cases h
   unfold sizeT at hs
   obtain ⟨i, hi, rfl⟩ := Option.map_eq_some_iff.1 hs
   obtain ⟨info, _, _, g1, _, _, _, _, _, g7, _⟩ := tiOf_spec (hT _ _ hi)
   simp [List.mapM_cons, g1, places_spec hT fs qs hqs, g7]
  ·cases h
theorem build_sound {P : Program} {T : Nat → Option TI} (hT : ∀ t i, T t = some i → tiOf P t = some i) {S : Nat → Nat → Prop} {β : Blocks} {w : World} {t : Nat} {i : TI} (ht : T t = some i) {fs : List (Nat × Nat)} (hk : i.kind = .struct fs)
  {ps : List (Nat × Nat)} (hp : places T fs = some ps) (parts : Array (Nat × Value)) (dparts : List (Nat × D)) (hl : parts.size = dparts.length)
  (hr : ∀ (i : Nat) p q, parts[i]? = some p → dparts[i]? = some q → p.1 = q.1 ∧ RelD S β w p.2 q.2) {cs : List D} (hf : fillD (ps[·]?) (i.zero.cells.map .v) dparts = some cs) :
  ∃ u, (Instr.build t parts).run P w = .ok u w ∧ RelD S β w u (mkAgg cs) := by
 obtain ⟨info, desc, z, g1, g2, g3, g4, g5, g6, g7, g8, _⟩ := tiOf_spec (hT _ _ ht)
 rw [hk] at g5
 obtain ⟨fields, rfl, rfl, _⟩ := tkOf_struct g5
 have hz : RelV S w z i.zero := ofValue_rel g4
 obtain ⟨z1, z2⟩ := hz.cells (ofValue_solid g4)
 obtain ⟨cs', h1, h2, h3⟩ := fill_sound (S := S) (β := β) (w := w) (ps[·]?) parts.toList dparts z.cells (i.zero.cells.map .v) cs (by simpa using hl) (fun i p q hp hq => hr i p q (by simpa using hp) hq) (by simpa using z1)
  (fun i v x hv hx => by
   simp only [List.getElem?_map] at hx
   obtain ⟨y, hy, rfl⟩ := Option.map_eq_some_iff.1 hx
   exact .v _ _ (z2 i v y hv hy)) hf
 have hb : P.built t parts.toList = some cs' := by
  unfold Program.built
  simp only [g1, g2, g3, places_spec hT _ _ hp]
  simpa using h1
 exact ⟨_, run_build w t parts cs' hb, rel_mkAgg h2 h3⟩
theorem clear_sound {P : Program} {T : Nat → Option TI} (hT : ∀ t i, T t = some i → tiOf P t = some i) {t : Nat} {ty : TypeId} {S : Nat → Nat → Prop} {β : Blocks} {w : World} {h h' : List AObj} (hi : HInv S β w h) {x : D} (hd : clearD T t h x = some h')
  {v : Value} (hv : RelD S β w v x) : ∃ w', (Builtin.clear_ #[t] ty #[v]).run P w = .ok (.tuple #[]) w' ∧ Ext DR S β w S β w' ∧ HInv S β w' h' := by
 unfold clearD at hd
 split at hd
 case h_2 => cases hd
 rename_i r off len full
 split at hd
 case h_2 => cases hd
 rename_i ti hti
 split at hd
 case h_2 => cases hd
 rename_i e k es hkind hes
 split at hd
 case h_2 => cases hd
 rename_i i he
 split at hd
 case isFalse => cases hd
 rename_i hc
 obtain ⟨hk1, hk2, hpos, hlen⟩ := hc
 cases hd
 cases hv with
 | osl _ _ _ b c k0 p cap _ hb hlc hp hcap =>
 subst hp
 obtain ⟨o1, o2, o3, o4, o5, cur, ety, o6, o7, o8⟩ := hi.obj r _ b c k0 hes hb
 subst o1
 obtain ⟨_, desc, _, _, g2, _, _, g5, _, _, _, _⟩ := tiOf_spec (hT t ti hti)
 obtain ⟨info, _, z, q1, _, q3, q4, _⟩ := tiOf_spec (hT e i he)
 have hdesc : desc = .slice e := by
  rw [hkind] at g5
  cases desc <;> simp [tkOf] at g5 <;> first | (rw [g5]; done) | skip
  all_goals first | (split at g5 <;> cases g5; done) | skip
 subst hdesc
 have hz : RelD S β w z (.v i.zero) := .v _ _ (ofValue_rel q4)
 have hsol : (D.v i.zero).solid = true := ofValue_solid q4
 obtain ⟨c1, c2⟩ := hz.cells hsol
 have c3 := hz.cells_one hsol
 have hzc : z.cells.size = k := by rw [c1]; simp [D.cells, hk2]
 obtain ⟨m, rfl⟩ : ∃ m, len = m + 1 := ⟨len - 1, by omega⟩
 have hzs : (Builtin.zeroCells z.cells (m + 1)).toList.length = (m + 1) * k := by rw [Array.length_toList, ← hzc]; simp [Builtin.zeroCells]
 have hfit : off * k + (Builtin.zeroCells z.cells (m + 1)).toList.length ≤ cur.size := by
  rw [hzs, o7, ← Nat.add_mul]
  exact Nat.mul_le_mul_right _ hlc
 have hst := run_store_own (P := P) (w := w) (off := off * k) (vs := (Builtin.zeroCells z.cells (m + 1)).toList) o6 hfit (fun u hu => by
  have hu : u ∈ Builtin.zeroCells z.cells (m + 1) := Array.mem_toList_iff.1 hu
  unfold Builtin.zeroCells at hu
  obtain ⟨q, _, rfl⟩ := Array.mem_map.1 hu
  have hq : q % z.cells.size < z.cells.size := Nat.mod_lt _ (by omega)
  rw [getElem!_pos z.cells _ hq]
  exact c3 _ (Array.mem_toList_iff.2 (Array.getElem_mem hq)))
 refine ⟨w.setRow b (spliceA cur (off * k) (Builtin.zeroCells z.cells (m + 1)).toList), by simp [Builtin.clear_, run_underlying g2, zeroValue, run_typeInfo q1, q3, hst], ?_⟩
 refine own_write (DR := DR) hi hes rfl hb (by simp) (fun j hj => setRow_other w b j _ hj) rfl rfl rfl (Nat.le_refl _) rfl (fun hk => ?_)
 refine ⟨rfl, o2, o3, by rw [List.length_take]; omega, fun q y hy => ?_, _, ety, setRow_heap w b cur _ ety _ o6, by rw [spliceA_size hfit]; exact o7, fun q j y y' v' hy hy' hv' => ?_⟩
 ·rw [List.getElem?_take] at hy
  split at hy
  ·exact o5 q y hy
  ·cases hy
 ·rw [List.getElem?_take] at hy
  split at hy
  ·rename_i hq
   have hj : j < k := by have := lt_of_getElem? hy'; have := (o5 q y hy).2; omega
   have hlt := mul_lt_of (k := k) hq hj
   rw [spliceA_get hfit, if_neg (by omega)] at hv'
   exact (o8 q j y y' v' hy hy' hv').mono hk
  ·cases hy
end Go.Abs
