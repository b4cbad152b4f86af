import Derived.Test.YtkmmaelmdioleaaGreatDoorAbsB
import Derived.MapKept
import Derived.Maps.RangeRun
namespace Go.Abs
open Go.ChangeMaps (setBlock)
set_option linter.unusedVariables false
set_option linter.unusedSimpArgs false
set_option linter.unnecessarySimpa false
variable {DR : Prop}
theorem key_kinds {P : Program} {T : Nat → Option TI} (hT : ∀ t i, T t = some i → tiOf P t = some i) {kt : Nat} {k : V} (h : keyOk1 T kt k = true) {S : Nat → Nat → Prop} {w : World} {key : Value} (hk : RelV S w key k) :
  ∃ i d, T kt = some i ∧ P.underlying kt = some d ∧ ((∃ q n, k = .int q n ∧ key = .int q n ∧ i.kind = .int q ∧ d = .int q) ∨ (∃ s, k = .str s ∧ key = .string s ∧ i.kind = .str ∧ d = .string) ∨ (∃ x, k = .bool x ∧ key = .bool x ∧ i.kind = .bool ∧ d = .bool)) := by
 unfold keyOk1 at h
 split at h
 ·rename_i i hi
  obtain ⟨info, desc, z, g1, g2, g3, g4, g5, g6, g7, g8, _⟩ := tiOf_spec (hT _ _ hi)
  refine ⟨i, desc, hi, g2, ?_⟩
  split at h
  ·rename_i q q' n hkd
   rw [hkd] at g5
   have h' : q' = q := by simpa using h
   subst h'
   cases hk
   exact .inl ⟨q', n, rfl, rfl, hkd, tkOf_int g5⟩
  ·rename_i s hkd
   rw [hkd] at g5
   cases hk
   exact .inr (.inl ⟨s, rfl, rfl, hkd, tkOf_str g5⟩)
  ·rename_i x hkd
   rw [hkd] at g5
   cases hk
   exact .inr (.inr ⟨x, rfl, rfl, hkd, tkOf_bool g5⟩)
  ·cases h
 ·cases h
theorem same_sound {P : Program} {T : Nat → Option TI} (hT : ∀ t i, T t = some i → tiOf P t = some i) {kt : Nat} {k x : V} (h : keyOk1 T kt k = true) {S : Nat → Nat → Prop} {w : World} {key v : Value} (hk : RelV S w key k) (hx : RelV S w v x) {b : Bool}
  (he : eqV T 8 kt k x = some b) {d : TypeDesc} (hd : P.underlying kt = some d) : Instr.sameNow d key v = some b ∧ (b = true → Instr.sameBits 10000 v key = true) := by
 obtain ⟨i, d', hi, hd', hc⟩ := key_kinds hT h hk
 rw [hd] at hd'
 cases hd'
 rcases hc with ⟨q, n, rfl, rfl, hki, rfl⟩ | ⟨s, rfl, rfl, hki, rfl⟩ | ⟨y, rfl, rfl, hki, rfl⟩
 ·simp only [eqV, hi, hki] at he
  cases x <;> simp only [] at he <;> first | (cases he; done) | skip
  cases hx
  split at he
  ·rename_i hq
   subst hq
   cases he
   refine ⟨by simp [Instr.sameNow], fun hb => ?_⟩
   simp only [beq_iff_eq] at hb
   subst hb
   simp [Instr.sameBits]
  ·cases he
 ·simp only [eqV, hi, hki] at he
  cases x <;> simp only [] at he <;> first | (cases he; done) | skip
  cases hx
  cases he
  refine ⟨by simp only [Instr.sameNow, beq_toListBytes], fun hb => ?_⟩
  rw [← beq_toListBytes, MapKept.bytes_beq] at hb
  subst hb
  simp [Instr.sameBits, MapKept.bytes_beq]
 ·simp only [eqV, hi, hki] at he
  cases x <;> simp only [] at he <;> first | (cases he; done) | skip
  cases hx
  cases he
  refine ⟨by simp only [Instr.sameNow], fun hb => ?_⟩
  simp only [beq_iff_eq] at hb
  subst hb
  simp [Instr.sameBits]
theorem findNow_sound {P : Program} {T : Nat → Option TI} (hT : ∀ t i, T t = some i → tiOf P t = some i) {kt : Nat} {k : V} (h : keyOk1 T kt k = true) {S : Nat → Nat → Prop} {w : World} {key : Value} (hk : RelV S w key k) {d : TypeDesc} (hd : P.underlying kt = some d) :
  ∀ (es : List MapEntry) (ks : List V) (i : Nat) (r : Option Nat), es.length = ks.length → (∀ (j : Nat) e x, es[j]? = some e → ks[j]? = some x → RelV S w e.key x) → keyFind T kt k ks i = some r →
   (r = none ∧ Instr.findNow d key es i = some none) ∨ ∃ j e, r = some (i + j) ∧ es[j]? = some e ∧ Instr.findNow d key es i = some (some (i + j, e.val)) ∧ Instr.sameBits 10000 e.key key = true
 | [], [], i, r, _, _, hf => by
  simp only [keyFind, Option.some.injEq] at hf
  subst hf
  exact .inl ⟨rfl, rfl⟩
 | [], _ :: _, _, _, hl, _, _ => by simp at hl
 | _ :: _, [], _, _, hl, _, _ => by simp at hl
 | e :: es, x :: ks, i, r, hl, hr, hf => by
  simp only [keyFind] at hf
  have hx := hr 0 e x rfl rfl
  split at hf
  ·rename_i he
   split at hf
   case isFalse => cases hf
   cases hf
   obtain ⟨h1, h2⟩ := same_sound hT h hk hx he hd
   exact .inr ⟨0, e, rfl, rfl, by simp [Instr.findNow, h1], h2 rfl⟩
  ·rename_i he
   obtain ⟨h1, _⟩ := same_sound hT h hk hx he hd
   rcases findNow_sound hT h hk hd es ks (i + 1) r (by simpa using hl) (fun j e x h1 h2 => hr (j + 1) e x (by simpa using h1) (by simpa using h2)) hf with ⟨g1, g2⟩ | ⟨j, e', g1, g2, g3, g4⟩
   ·exact .inl ⟨g1, by simp [Instr.findNow, h1, g2]⟩
   ·exact .inr ⟨j + 1, e', by rw [g1]; congr 1; omega, by simpa using g2, by simp only [Instr.findNow, h1, g3]; congr 2; simp; omega, g4⟩
  ·cases hf
theorem findKey_sound1 {P : Program} {T : Nat → Option TI} (hT : ∀ t i, T t = some i → tiOf P t = some i) {kt : Nat} {k : V} (h : keyOk1 T kt k = true) {S : Nat → Nat → Prop} {w : World} {key : Value} (hk : RelV S w key k) {es : Array MapEntry} {ks : List V} {r : Option Nat}
  (hl : es.size = ks.length) (hr : ∀ (j : Nat) e x, es[j]? = some e → ks[j]? = some x → RelV S w e.key x) (hf : keyFind T kt k ks 0 = some r) :
  (∀ em, (Instr.checkKey em 10000 kt key).run P w = .ok () w) ∧
   ((r = none ∧ (Instr.findKey kt key es.toList).run P w = .ok none w) ∨ ∃ j e, r = some j ∧ es[j]? = some e ∧ (Instr.findKey kt key es.toList).run P w = .ok (some (j, e.val)) w ∧ (Instr.keyThatStays e.key key).run P w = .ok key w) := by
 obtain ⟨i, d, hi, hd, hc⟩ := key_kinds hT h hk
 refine ⟨fun em => ?_, ?_⟩
 ·have : (10000 : Nat) = 9999 + 1 := rfl
  rw [this]
  unfold Instr.checkKey
  rcases hc with ⟨q, n, rfl, rfl, hki, rfl⟩ | ⟨s, rfl, rfl, hki, rfl⟩ | ⟨y, rfl, rfl, hki, rfl⟩ <;>
   simp only [Sem.run_bind, run_underlying hd, Result.andThen_ok, Sem.run_pure]
 ·rcases findNow_sound hT h hk hd es.toList ks 0 r (by simpa using hl) (fun j e x h1 h2 => hr j e x (by simpa using h1) h2) hf with ⟨g1, g2⟩ | ⟨j, e, g1, g2, g3, g4⟩
  ·refine .inl ⟨g1, ?_⟩
   unfold Instr.findKey
   simp only [Sem.run_bind, run_underlying hd, Result.andThen_ok, g2, Sem.run_pure]
  ·refine .inr ⟨j, e, by simpa using g1, by simpa using g2, ?_, ?_⟩
   ·unfold Instr.findKey
    simp only [Sem.run_bind, run_underlying hd, Result.andThen_ok, g3, Sem.run_pure, Nat.zero_add]
   ·unfold Instr.keyThatStays
    simp only [g4, if_true, Sem.run_pure]
theorem checkKey2 {P : Program} {T : Nat → Option TI} (hT : ∀ t i, T t = some i → tiOf P t = some i) {kt : Nat} {k : V} (h : keyOk2 T kt k = true) {S : Nat → Nat → Prop} {w : World} {key : Value} (hk : RelV S w key k) (em : Bool) : (Instr.checkKey em 10000 kt key).run P w = .ok () w := by
 unfold keyOk2 at h
 split at h
 case h_2 => cases h
 rename_i i hi
 split at h
 case h_2 => cases h
 rename_i fs cs hkd
 rw [Bool.and_eq_true] at h
 obtain ⟨info, desc, z, g1, g2, g3, g4, g5, _⟩ := tiOf_spec (hT _ _ hi)
 rw [hkd] at g5
 obtain ⟨fields, rfl, rfl, hn⟩ := tkOf_struct g5
 cases hk with
 | agg vs _ hl hr =>
 have hall : ∀ f ∈ fields.toList, ∃ v, (part f.type vs f.offset).run P w = .ok v w ∧ ∀ n, (Instr.checkKey em (n + 1) f.type v).run P w = .ok () w := by
  intro f hf
  have hff := List.all_eq_true.1 h.1 (f.offset, f.type) (List.mem_map.2 ⟨f, hf, rfl⟩)
  rw [Bool.and_eq_true, decide_eq_true_eq] at hff
  obtain ⟨hf1, hf2⟩ := hff
  split at hf1
  case h_2 => cases hf1
  rename_i j hj
  obtain ⟨_, desc', _, _, q2, _, _, q5, q6, _⟩ := tiOf_spec (hT _ _ hj)
  obtain ⟨q, hq⟩ : ∃ q, j.kind = .int q := by
   cases hjk : j.kind <;> rw [hjk] at hf1 <;> first | exact ⟨_, rfl⟩ | cases hf1
  rw [hq] at q5
  have := tkOf_int q5
  subst this
  have hlt : f.offset < vs.size := by rw [hl]; exact hf2
  refine ⟨vs[f.offset], ?_, fun n => ?_⟩
  ·unfold part
   simp only [Sem.run_bind, run_isAgg q2 (by rw [q5]; rfl), Result.andThen_ok, show (tkOf (TypeDesc.int q)).isAgg = false from rfl, Bool.false_eq_true, if_false, Array.getElem?_eq_getElem hlt, Sem.run_pure]
  ·unfold Instr.checkKey
   simp only [Sem.run_bind, run_underlying q2, Result.andThen_ok, Sem.run_pure]
 show (Instr.checkKey em (9998 + 1 + 1) kt (.agg vs)).run P w = .ok () w
 unfold Instr.checkKey
 simp only [Sem.run_bind, run_underlying g2, Result.andThen_ok]
 have key : ∀ l : List Field, (∀ f ∈ l, f ∈ fields.toList) → (forIn l PUnit.unit fun f _ => (do
   if f.name ≠ "_" then Instr.checkKey em (9998 + 1) f.type (← part f.type vs f.offset)
   pure (ForInStep.yield PUnit.unit) : Sem (ForInStep PUnit))).run P w = .ok PUnit.unit w := by
  intro l
  induction l with
  | nil => intro _; rfl
  | cons f r ih =>
   intro hl
   obtain ⟨v, h1, h2⟩ := hall f (hl f List.mem_cons_self)
   rw [List.forIn_cons]
   have := ih fun g hg => hl g (List.mem_cons_of_mem _ hg)
   simp only [Sem.run_bind, if_pos (hn f (hl f List.mem_cons_self)), h1, h2, Result.andThen_ok, Sem.run_pure, this]
 have := key fields.toList (fun f hf => hf)
 rw [← Array.forIn_toList]
 simp at this ⊢
 rw [this]
 rfl
theorem intsB_at : ∀ {cs ys : List V}, intsB cs ys = true → cs = ys ∧ ∀ x ∈ cs, ∃ q n, x = .int q n
 | [], [], _ => ⟨rfl, fun x hx => by cases hx⟩
 | [], _ :: _, h => by cases h
 | x :: _, [], h => by cases x <;> cases h
 | x :: r, y :: s, h => by
  cases x <;> cases y <;> first | (cases h; done) | skip
  rename_i q n q' n'
  have h : (decide (q = q' ∧ n = n') && intsB r s) = true := h
  rw [Bool.and_eq_true, decide_eq_true_eq] at h
  obtain ⟨⟨rfl, rfl⟩, h2⟩ := h
  obtain ⟨rfl, h3⟩ := intsB_at h2
  refine ⟨rfl, fun x hx => ?_⟩
  rcases List.mem_cons.1 hx with rfl | hx
  ·exact ⟨_, _, rfl⟩
  ·exact h3 x hx
theorem same2 {S : Nat → Nat → Prop} {w : World} {cs : List V} {x : V} (h : keyTwin (.agg cs) x = true) {key v : Value} (hk : RelV S w key (.agg cs)) (hx : RelV S w v x) : Instr.sameBits 10000 v key = true := by
 obtain ⟨ys, rfl⟩ : ∃ ys, x = .agg ys := by cases x <;> first | exact ⟨_, rfl⟩ | cases h
 obtain ⟨rfl, hi⟩ := intsB_at h
 cases hk with
 | agg vs _ hl hr =>
 cases hx with
 | agg us _ hl' hr' =>
 have e : us = vs := by
  apply Array.ext
  ·omega
  ·intro i h1 h2
   have h3 : i < cs.length := by omega
   obtain ⟨q, n, hq⟩ := hi cs[i] (List.getElem_mem h3)
   have a1 := hr i vs[i] cs[i] (Array.getElem?_eq_getElem h2) (List.getElem?_eq_getElem h3)
   have a2 := hr' i us[i] cs[i] (Array.getElem?_eq_getElem h1) (List.getElem?_eq_getElem h3)
   rw [hq] at a1 a2
   generalize us[i] = u at a2
   generalize vs[i] = v at a1
   cases a1
   cases a2
   rfl
 subst e
 show (us.size == us.size && (us.toList.zip us.toList).all fun p => Instr.sameBits 9999 p.1 p.2) = true
 rw [beq_self_eq_true, Bool.true_and, List.all_eq_true]
 intro p hp
 obtain ⟨i, hpi⟩ := List.getElem?_of_mem hp
 rw [List.getElem?_zip_eq_some] at hpi
 have h12 : p.1 = p.2 := Option.some.inj (hpi.1.symm.trans hpi.2)
 have hlt : i < us.size := by
  have := lt_of_getElem? hpi.1
  rw [Array.length_toList] at this
  exact this
 obtain ⟨q, n, hq⟩ := hi cs[i] (List.getElem_mem (by omega))
 have a1 := hr i us[i] cs[i] (Array.getElem?_eq_getElem hlt) (List.getElem?_eq_getElem (by omega))
 have hp1 : p.1 = us[i] := by
  have := hpi.1
  rw [List.getElem?_eq_getElem (by rw [Array.length_toList]; exact hlt)] at this
  rw [← Option.some.inj this]; simp
 rw [← h12, hp1]
 rw [hq] at a1
 generalize us[i] = u at a1
 cases a1
 simp [Instr.sameBits]
theorem findKey_sound {P : Program} {T : Nat → Option TI} (hT : ∀ t i, T t = some i → tiOf P t = some i) {kt : Nat} {k : V} (h : keyOk T kt k = true) {S : Nat → Nat → Prop} {w : World} {key : Value} (hk : RelV S w key k) {es : Array MapEntry} {ks : List V} {r : Option Nat}
  (hl : es.size = ks.length) (hr : ∀ (j : Nat) e x, es[j]? = some e → ks[j]? = some x → RelV S w e.key x) (hf : keyFind T kt k ks 0 = some r) :
  (∀ em, (Instr.checkKey em 10000 kt key).run P w = .ok () w) ∧
   ((r = none ∧ (Instr.findKey kt key es.toList).run P w = .ok none w) ∨ ∃ j e, r = some j ∧ es[j]? = some e ∧ (Instr.findKey kt key es.toList).run P w = .ok (some (j, e.val)) w ∧ (Instr.keyThatStays e.key key).run P w = .ok key w) := by
 unfold keyOk at h
 rw [Bool.or_eq_true] at h
 rcases h with h | h
 ·exact findKey_sound1 hT h hk hl hr hf
 refine ⟨checkKey2 hT h hk, ?_⟩
 unfold keyOk2 at h
 split at h
 case h_2 => cases h
 rename_i i hi
 split at h
 case h_2 => cases h
 rename_i fs cs hkd
 rw [Bool.and_eq_true] at h
 obtain ⟨info, desc, z, g1, g2, g3, g4, g5, _⟩ := tiOf_spec (hT _ _ hi)
 rw [hkd] at g5
 obtain ⟨fields, rfl, rfl, hn⟩ := tkOf_struct g5
 have ask : ∀ (es : List MapEntry) (ks : List V) (i0 : Nat) (r : Option Nat), es.length = ks.length → (∀ (j : Nat) e x, es[j]? = some e → ks[j]? = some x → RelV S w e.key x) → keyFind T kt (.agg cs) ks i0 = some r →
   (r = none ∧ (Instr.findAsking kt key es i0).run P w = .ok none w) ∨ ∃ j e, r = some (i0 + j) ∧ es[j]? = some e ∧ (Instr.findAsking kt key es i0).run P w = .ok (some (i0 + j, e.val)) w ∧ ∃ x, ks[j]? = some x ∧ keyTwin (.agg cs) x = true := by
  intro es
  induction es with
  | nil =>
   intro ks i0 r hl _ hf
   cases ks with
   | cons => simp at hl
   | nil =>
    simp only [keyFind, Option.some.injEq] at hf
    exact .inl ⟨hf.symm, rfl⟩
  | cons e es ih =>
   intro ks i0 r hl hr hf
   cases ks with
   | nil => simp at hl
   | cons x ks =>
    have he := hr 0 e x rfl rfl
    simp only [keyFind] at hf
    split at hf
    ·rename_i hq
     split at hf
     case isFalse => cases hf
     rename_i htw
     have heq := eqV_sound hT 8 Op.maxDepth (by decide) kt (.agg cs) x true key e.key hq hk he
     cases hf
     refine .inr ⟨0, e, rfl, rfl, ?_, x, rfl, htw⟩
     unfold Instr.findAsking
     have heq : (Op.equal kt key e.key).run P w = .ok true w := heq
     simp only [Sem.run_bind, heq, Result.andThen_ok, if_true, Sem.run_pure, Nat.add_zero]
    ·rename_i hq
     have heq := eqV_sound hT 8 Op.maxDepth (by decide) kt (.agg cs) x false key e.key hq hk he
     have heq : (Op.equal kt key e.key).run P w = .ok false w := heq
     have hstep : (Instr.findAsking kt key (e :: es) i0).run P w = (Instr.findAsking kt key es (i0 + 1)).run P w := by
      rw [Instr.findAsking]
      simp only [Sem.run_bind, heq, Result.andThen_ok, Bool.false_eq_true, if_false]
     rw [hstep]
     rcases ih ks (i0 + 1) r (by simpa using hl) (fun j e x h1 h2 => hr (j + 1) e x (by simpa using h1) (by simpa using h2)) hf with g | ⟨j, e', q1, q2, q3, x', q4, q5⟩
     ·exact .inl g
     ·exact .inr ⟨j + 1, e', by rw [q1]; congr 1; omega, by simpa using q2, by rw [q3]; congr 3; omega, x', by simpa using q4, q5⟩
    ·cases hf
 have hfk : (Instr.findKey kt key es.toList).run P w = (Instr.findAsking kt key es.toList 0).run P w := by
  unfold Instr.findKey
  simp only [Sem.run_bind, run_underlying g2, Result.andThen_ok]
  cases es.toList with
  | nil => rfl
  | cons e es => rfl
 rw [hfk]
 rcases ask es.toList ks 0 r (by simpa using hl) (fun j e x h1 h2 => hr j e x (by simpa using h1) h2) hf with g | ⟨j, e, q1, q2, q3, x, q4, q5⟩
 ·exact .inl g
 ·refine .inr ⟨j, e, by simpa using q1, by simpa using q2, by simpa using q3, ?_⟩
  have hx : RelV S w e.key x := hr j e x (by simpa using q2) q4
  unfold Instr.keyThatStays
  have hsb : Instr.sameBits 10000 e.key key = true := same2 q5 hk hx
  simp only [hsb, if_true, Sem.run_pure]
theorem mapKV_sound {S : Nat → Nat → Prop} {β : Blocks} {w : World} {h : List AObj} (hi : HInv S β w h) {x : D} {ks : List V} {vs : List D} (hm : mapKV h x = some (ks, vs)) {v : Value} (hv : RelD S β w v x) :
  (v = .map none ∧ ks = [] ∧ vs = [] ∧ isNilM x = some true) ∨ ∃ b es, v = .map (some b) ∧ isNilM x = some false ∧ w.heap[b]? = some (.map es es.size) ∧ Rising es ∧ es.size = ks.length ∧ vs.length = ks.length ∧ (∀ (i : Nat) (e : MapEntry) (x : V), es[i]? = some e → ks[i]? = some x → RelV S w e.key x) ∧
   ∀ (i : Nat) (e : MapEntry) (d : D), es[i]? = some e → vs[i]? = some d → RelD S β w e.val d := by
 unfold mapKV at hm
 split at hm
 ·cases hm; cases hv.of_v; exact .inl ⟨rfl, rfl, rfl, rfl⟩
 ·rename_i ks' vs'
  cases hm
  cases hv.of_v with
  | map b es _ _ hs hm hb hk hvl hrk hrv =>
  refine .inr ⟨b, es, rfl, rfl, mapAt_some hm, hb, hk, by simp; omega, hrk, fun i e d he hd => ?_⟩
  rw [List.getElem?_map] at hd
  obtain ⟨y, hy, rfl⟩ := Option.map_eq_some_iff.1 hd
  exact .v _ _ (hrv i e y he hy)
 ·rename_i r
  split at hm
  ·rename_i ks' vs' ho
   cases hm
   cases hv with
   | map _ b c k hb =>
   obtain ⟨o1, o2, es, o3, o4, o5, o6, o7⟩ := hi.obj r _ b c k ho hb
   exact .inr ⟨b, es, rfl, rfl, o3, o4, o5, o2, o6, o7⟩
  ·cases hm
 ·cases hm
theorem run_zero {P : Program} {T : Nat → Option TI} (hT : ∀ t i, T t = some i → tiOf P t = some i) {e : Nat} {i : TI} (he : T e = some i) (w : World) : ∃ z, (zeroValue e).run P w = .ok z w ∧ ∀ S, RelV S w z i.zero := by
 obtain ⟨info, desc, z, g1, g2, g3, g4, g5, g6, g7, g8, _⟩ := tiOf_spec (hT _ _ he)
 exact ⟨z, by simp [zeroValue, run_typeInfo g1, g3], fun S => ofValue_rel g4⟩
theorem rel_pair {S : Nat → Nat → Prop} {β : Blocks} {w : World} {u v : Value} {d e : D} (hd : RelD S β w u d) (he : RelD S β w v e) : RelD S β w (.tuple #[u, v]) (mkTuple [d, e]) := by
 refine rel_mkTuple rfl (fun i x y hx hy => ?_)
 match i with
 | 0 => simp at hx hy; subst hx; subst hy; exact hd
 | 1 => simp at hx hy; subst hx; subst hy; exact he
 | i + 2 => simp at hx
theorem lookup_sound {P : Program} {T : Nat → Option TI} (hT : ∀ t i, T t = some i → tiOf P t = some i) {S : Nat → Nat → Prop} {β : Blocks} {w : World} {h : List AObj} (hi : HInv S β w h) {t : Nat} {x i d : D} {ok : Bool}
  (hd : lookupD T h t x i ok = some d) {v u : Value} (hv : RelD S β w v x) (hu : RelD S β w u i) : ∃ y, (Instr.lookup t v u ok).run P w = .ok y w ∧ RelD S β w y d := by
 unfold lookupD at hd
 split at hd
 ·cases hd
 rename_i ti hti
 split at hd
 case h_2 => cases hd
 rename_i kt et k hkd
 obtain ⟨info, desc, z, g1, g2, g3, g4, g5, g6, g7, g8, _⟩ := tiOf_spec (hT _ _ hti)
 rw [hkd] at g5
 have := tkOf_map g5
 subst this
 split at hd
 ·cases hd
 rename_i ei hei
 split at hd
 case isFalse => cases hd
 rename_i hko
 split at hd
 ·cases hd
 rename_i ks vs hkv
 obtain ⟨zv, hz, hzr⟩ := run_zero hT hei w
 have hkey := hu.of_v
 -- the entries as an array
 have ent : ∃ es : Array MapEntry, es.size = ks.length ∧ (∀ (i : Nat) (e : MapEntry) (x : V), es[i]? = some e → ks[i]? = some x → RelV S w e.key x) ∧ (∀ (i : Nat) (e : MapEntry) (d : D), es[i]? = some e → vs[i]? = some d → RelD S β w e.val d) ∧
   ((v = .map none ∧ es = #[]) ∨ ∃ b, v = .map (some b) ∧ w.heap[b]? = some (.map es es.size)) := by
  rcases mapKV_sound hi hkv hv with ⟨rfl, rfl, rfl, _⟩ | ⟨b, es, rfl, _, m1, m2, m3, m4, m5, m6⟩
  ·exact ⟨#[], rfl, fun i e x he => by simp at he, fun i e d he => by simp at he, .inl ⟨rfl, rfl⟩⟩
  ·exact ⟨es, m3, m5, m6, .inr ⟨b, rfl, m1⟩⟩
 obtain ⟨es, e1, e2, e3, e4⟩ := ent
 split at hd
 ·cases hd
 ·rename_i j hf
  obtain ⟨c1, c2⟩ := findKey_sound hT hko hkey e1 e2 hf
  rcases c2 with ⟨c2, _⟩ | ⟨j', e, c2, c3, c4, _⟩
  ·cases c2
  cases c2
  obtain ⟨y, hy, rfl⟩ := Option.map_eq_some_iff.1 hd
  have hval := e3 j e y c3 hy
  refine ⟨if ok then .tuple #[e.val, .bool true] else e.val, ?_, ?_⟩
  ·rcases e4 with ⟨rfl, rfl⟩ | ⟨b, rfl, hb⟩
   ·simp at c3
   ·simp [Instr.lookup, run_underlying g2, MapKept.run_getObj_map hb, c1, c4, Result.andThen]
  ·cases ok
   ·exact hval
   ·exact rel_pair hval (.v _ _ (.bool _))
 ·rename_i hf
  obtain ⟨c1, c2⟩ := findKey_sound hT hko hkey e1 e2 hf
  rcases c2 with ⟨_, c2⟩ | ⟨j', e, c2, _⟩
  rotate_left
  ·cases c2
  cases hd
  refine ⟨if ok then .tuple #[zv, .bool false] else zv, ?_, ?_⟩
  ·rcases e4 with ⟨rfl, rfl⟩ | ⟨b, rfl, hb⟩
   ·simp only at c2
    simp [Instr.lookup, run_underlying g2, c1, c2, hz, Result.andThen]
   ·simp [Instr.lookup, run_underlying g2, MapKept.run_getObj_map hb, c1, c2, hz, Result.andThen]
  ·cases ok
   ·exact .v _ _ (hzr S)
   ·refine .v _ _ (.tuple _ _ rfl fun i x y hx hy => ?_)
    match i with
    | 0 => simp at hx hy; subst hx; subst hy; exact hzr S
    | 1 => simp at hx hy; subst hx; subst hy; exact .bool _
    | i + 2 => simp at hx
theorem map_set {w : World} {b : Nat} {o : Obj} {es : Array MapEntry} {c : Nat} (hb : w.heap[b]? = some (.map es c)) : (setBlock w b o).heap[b]? = some o ∧ (∀ j, j ≠ b → (setBlock w b o).heap[j]? = w.heap[j]?) ∧ (setBlock w b o).heap.size = w.heap.size := by
 have hlt := (Array.getElem?_eq_some_iff.1 hb).1
 refine ⟨by simp [setBlock, hlt], fun j hj => by simp [setBlock, Ne.symm hj], by simp [setBlock]⟩
theorem map_written {S : Nat → Nat → Prop} {β : Blocks} {w : World} {h : List AObj} (hi : HInv S β w h) {r b c k : Nat} {ks ks' : List V} {vs vs' : List D} {es es' : Array MapEntry} (hr : h[r]? = some (.map ks vs)) (hb : β[r]? = some (b, c, k))
  (hm : w.heap[b]? = some (.map es es.size)) (h1 : vs'.length = ks'.length) (h2 : Rising es') (h3 : es'.size = ks'.length)
  (h4 : ∀ w', Keeps S w S w' → ∀ (i : Nat) (e : MapEntry) (x : V), es'[i]? = some e → ks'[i]? = some x → RelV S w' e.key x) (h5 : ∀ w', Keeps S w S w' → ∀ (i : Nat) (e : MapEntry) (d : D), es'[i]? = some e → vs'[i]? = some d → RelD S β w' e.val d) :
  Ext DR S β w S β (setBlock w b (.map es' es'.size)) ∧ HInv S β (setBlock w b (.map es' es'.size)) (h.set r (.map ks' vs')) := by
 obtain ⟨s1, s2, s3⟩ := map_set (o := .map es' es'.size) hm
 have ho := hi.obj r _ b c k hr hb
 exact own_write (DR := DR) hi hr rfl hb s3 s2 rfl rfl rfl (Nat.le_refl _) rfl fun hK => ⟨ho.1, h1, es', s1, h2, h3, h4 _ hK, h5 _ hK⟩
theorem rising_push {es : Array MapEntry} (h : Rising es) (k v : Value) : Rising (es.push ⟨k, v, es.size⟩) := by
 intro i e he
 rw [Array.getElem?_push] at he
 split at he
 ·rename_i hi; cases he; exact hi.symm
 ·exact h i e he
theorem rising_modify {es : Array MapEntry} (h : Rising es) (j : Nat) (f : MapEntry → MapEntry) (hf : ∀ e, (f e).born = e.born) : Rising (es.modify j f) := by
 intro i e he
 rw [Array.getElem?_modify] at he
 split at he
 ·obtain ⟨x, hx, rfl⟩ := Option.map_eq_some_iff.1 he
  rw [hf]; exact h i x hx
 ·exact h i e he
theorem get_modify {es : Array MapEntry} {j : Nat} {f : MapEntry → MapEntry} {i : Nat} {e : MapEntry} (h : (es.modify j f)[i]? = some e) : (i = j ∧ ∃ e0, es[i]? = some e0 ∧ e = f e0) ∨ (i ≠ j ∧ es[i]? = some e) := by
 rw [Array.getElem?_modify] at h
 split at h
 ·rename_i hij
  obtain ⟨x, hx, rfl⟩ := Option.map_eq_some_iff.1 h
  exact .inl ⟨hij.symm, x, hx, rfl⟩
 ·rename_i hij
  exact .inr ⟨fun e => hij e.symm, h⟩
theorem get_push {es : Array MapEntry} {e0 : MapEntry} {i : Nat} {e : MapEntry} (h : (es.push e0)[i]? = some e) : (i = es.size ∧ e = e0) ∨ (i < es.size ∧ es[i]? = some e) := by
 rw [Array.getElem?_push] at h
 split at h
 ·rename_i hi; cases h; exact .inl ⟨hi, rfl⟩
 ·exact .inr ⟨(Array.getElem?_eq_some_iff.1 h).1, h⟩
theorem mapSet_sound {P : Program} {T : Nat → Option TI} (hT : ∀ t i, T t = some i → tiOf P t = some i) {S : Nat → Nat → Prop} {β : Blocks} {w : World} {h h' : List AObj} (hi : HInv S β w h) {t : Nat} {m i x : D}
  (hd : mapSetD T h t m i x = some h') {v u y : Value} (hv : RelD S β w v m) (hu : RelD S β w u i) (hy : RelD S β w y x) : ∃ w', (Instr.mapUpdate t v u y).run P w = .ok () w' ∧ Ext DR S β w S β w' ∧ HInv S β w' h' := by
 unfold mapSetD at hd
 split at hd
 ·cases hd
 rename_i ti hti
 split at hd
 case h_2 => cases hd
 rename_i kt et r k hkd
 obtain ⟨info, desc, z, g1, g2, g3, g4, g5, g6, g7, g8, _⟩ := tiOf_spec (hT _ _ hti)
 rw [hkd] at g5
 have := tkOf_map g5
 subst this
 split at hd
 case h_2 => cases hd
 rename_i ks vs hr
 split at hd
 case isFalse => cases hd
 rename_i hko
 have hkey := hu.of_v
 cases hv with
 | map _ b c q hb =>
 obtain ⟨o1, o2, es, o3, o4, o5, o6, o7⟩ := hi.obj r _ b c q hr hb
 split at hd
 ·cases hd
 ·rename_i j hf
  cases hd
  obtain ⟨c1, c2⟩ := findKey_sound hT hko hkey o5 o6 hf
  rcases c2 with ⟨c2, _⟩ | ⟨j', e, c2, c3, c4, c5⟩
  ·cases c2
  cases c2
  have hw := map_written (DR := DR) (es' := es.modify j fun e => { e with key := u, val := y }) (ks' := ks.set j k) (vs' := vs.set j x) hi hr hb o3 (by simp [o2]) (rising_modify o4 _ _ fun _ => rfl) (by simp [o5])
   (fun w' hK i e' z he hz => by
    rw [List.getElem?_set] at hz
    rcases get_modify he with ⟨rfl, e0, he0, rfl⟩ | ⟨hne, he0⟩
    ·rw [if_pos rfl] at hz
     split at hz
     ·cases hz; exact hkey.mono hK
     ·cases hz
    ·rw [if_neg (Ne.symm hne)] at hz
     exact (o6 i e' z he0 hz).mono hK)
   (fun w' hK i e' z he hz => by
    rw [List.getElem?_set] at hz
    rcases get_modify he with ⟨rfl, e0, he0, rfl⟩ | ⟨hne, he0⟩
    ·rw [if_pos rfl] at hz
     split at hz
     ·cases hz; exact hy.mono hK (fun _ _ h => h)
     ·cases hz
    ·rw [if_neg (Ne.symm hne)] at hz
     exact (o7 i e' z he0 hz).mono hK (fun _ _ h => h))
  refine ⟨_, ?_, hw⟩
  simp [Instr.mapUpdate, run_underlying g2, MapKept.run_getObj_map o3, c1, c4, c3, c5, MapKept.run_setObj_map _ o3, Result.andThen, setBlock]
 ·rename_i hf
  cases hd
  obtain ⟨c1, c2⟩ := findKey_sound hT hko hkey o5 o6 hf
  rcases c2 with ⟨_, c2⟩ | ⟨j', e, c2, _⟩
  rotate_left
  ·cases c2
  have hw := map_written (DR := DR) (es' := es.push ⟨u, y, es.size⟩) (ks' := ks ++ [k]) (vs' := vs ++ [x]) hi hr hb o3 (by simp [o2]) (rising_push o4 _ _) (by simp [o5])
   (fun w' hK i e' z he hz => by
    rcases get_push he with ⟨rfl, rfl⟩ | ⟨hlt, he0⟩
    ·rw [o5] at hz; simp at hz; subst hz; exact hkey.mono hK
    ·rw [List.getElem?_append_left (by omega)] at hz
     exact (o6 i e' z he0 hz).mono hK)
   (fun w' hK i e' z he hz => by
    rcases get_push he with ⟨rfl, rfl⟩ | ⟨hlt, he0⟩
    ·rw [o5, ← o2] at hz; simp at hz; subst hz; exact hy.mono hK (fun _ _ h => h)
    ·rw [List.getElem?_append_left (by omega)] at hz
     exact (o7 i e' z he0 hz).mono hK (fun _ _ h => h))
  refine ⟨_, ?_, hw⟩
  simp [Instr.mapUpdate, run_underlying g2, MapKept.run_getObj_map o3, c1, c2, MapKept.run_setObj_map _ o3, Result.andThen, setBlock]
theorem mapEntry_sound {P : Program} {T : Nat → Option TI} (hT : ∀ t i, T t = some i → tiOf P t = some i) {S : Nat → Nat → Prop} {β : Blocks} {w : World} {h h' : List AObj} (hi : HInv S β w h) {t : Nat} {m i d : D}
  (hd : mapEntryD T h t m i = some (d, h')) {v u : Value} (hv : RelD S β w v m) (hu : RelD S β w u i) : ∃ y w', (Instr.mapEntry t v u).run P w = .ok y w' ∧ Ext DR S β w S β w' ∧ HInv S β w' h' ∧ RelD S β w' y d := by
 unfold mapEntryD at hd
 split at hd
 ·cases hd
 rename_i ti hti
 split at hd
 case h_2 => cases hd
 rename_i kt et r k hkd
 obtain ⟨info, desc, z, g1, g2, g3, g4, g5, g6, g7, g8, _⟩ := tiOf_spec (hT _ _ hti)
 rw [hkd] at g5
 have := tkOf_map g5
 subst this
 split at hd
 case h_2 => cases hd
 rename_i ks vs ei hr hei
 split at hd
 case isFalse => cases hd
 rename_i hko
 have hkey := hu.of_v
 cases hv with
 | map _ b c q hb =>
 obtain ⟨o1, o2, es, o3, o4, o5, o6, o7⟩ := hi.obj r _ b c q hr hb
 split at hd
 ·cases hd
 ·rename_i j hf
  obtain ⟨d0, hd0, he⟩ := Option.map_eq_some_iff.1 hd
  obtain ⟨rfl, rfl⟩ := Prod.mk.inj he
  obtain ⟨c1, c2⟩ := findKey_sound hT hko hkey o5 o6 hf
  rcases c2 with ⟨c2, _⟩ | ⟨j', e, c2, c3, c4, c5⟩
  ·cases c2
  cases c2
  have hw := map_written (DR := DR) (es' := es.modify j fun e => { e with key := u }) (ks' := ks.set j k) (vs' := vs) hi hr hb o3 (by simp [o2]) (rising_modify o4 _ _ fun _ => rfl) (by simp [o5])
   (fun w' hK i e' z he hz => by
    rw [List.getElem?_set] at hz
    rcases get_modify he with ⟨rfl, e0, he0, rfl⟩ | ⟨hne, he0⟩
    ·rw [if_pos rfl] at hz
     split at hz
     ·cases hz; exact hkey.mono hK
     ·cases hz
    ·rw [if_neg (Ne.symm hne)] at hz
     exact (o6 i e' z he0 hz).mono hK)
   (fun w' hK i e' z he hz => by
    rcases get_modify he with ⟨rfl, e0, he0, rfl⟩ | ⟨hne, he0⟩
    ·exact (o7 i e0 z he0 hz).mono hK (fun _ _ h => h)
    ·exact (o7 i e' z he0 hz).mono hK (fun _ _ h => h))
  refine ⟨.tuple #[e.val, goInt j], _, ?_, hw.1, hw.2, rel_pair ((o7 j e d0 c3 hd0).mono hw.1.keeps (fun _ _ h => h)) ?_⟩
  ·simp [Instr.mapEntry, run_underlying g2, MapKept.run_getObj_map o3, c1, c4, c3, c5, o4 j e c3, MapKept.run_setObj_map _ o3, Result.andThen, setBlock]
  ·exact .v _ _ (.int _ _)
 ·rename_i hf
  obtain ⟨rfl, rfl⟩ := Prod.mk.inj (Option.some.inj hd)
  obtain ⟨c1, c2⟩ := findKey_sound hT hko hkey o5 o6 hf
  rcases c2 with ⟨_, c2⟩ | ⟨j', e, c2, _⟩
  rotate_left
  ·cases c2
  obtain ⟨zv, hz, hzr⟩ := run_zero hT hei w
  have hw := map_written (DR := DR) (es' := es.push ⟨u, zv, es.size⟩) (ks' := ks ++ [k]) (vs' := vs ++ [.v ei.zero]) hi hr hb o3 (by simp [o2]) (rising_push o4 _ _) (by simp [o5])
   (fun w' hK i e' z he hz => by
    rcases get_push he with ⟨rfl, rfl⟩ | ⟨hlt, he0⟩
    ·rw [o5] at hz; simp at hz; subst hz; exact hkey.mono hK
    ·rw [List.getElem?_append_left (by omega)] at hz
     exact (o6 i e' z he0 hz).mono hK)
   (fun w' hK i e' z he hz => by
    rcases get_push he with ⟨rfl, rfl⟩ | ⟨hlt, he0⟩
    ·rw [o5, ← o2] at hz; simp at hz; subst hz; exact (RelD.v _ _ (hzr S)).mono hK (fun _ _ h => h)
    ·rw [List.getElem?_append_left (by omega)] at hz
     exact (o7 i e' z he0 hz).mono hK (fun _ _ h => h))
  refine ⟨.tuple #[zv, goInt es.size], _, ?_, hw.1, hw.2, ?_⟩
  ·simp [Instr.mapEntry, run_underlying g2, MapKept.run_getObj_map o3, c1, c2, hz, MapKept.run_setObj_map _ o3, Result.andThen, setBlock]
  ·refine .v _ _ (.tuple _ _ rfl fun i x y hx hy => ?_)
   match i with
   | 0 => simp at hx hy; subst hx; subst hy; exact (hzr S).mono hw.1.keeps
   | 1 => simp at hx hy; subst hx; subst hy; rw [o5]; exact .int _ _
   | i + 2 => simp at hx
theorem entryStore_sound {P : Program} {S : Nat → Nat → Prop} {β : Blocks} {w : World} {h h' : List AObj} (hi : HInv S β w h) {t : Nat} {m s x : D}
  (hd : entryStoreD h m s x = some h') {v u y : Value} (hv : RelD S β w v m) (hu : RelD S β w u s) (hy : RelD S β w y x) : ∃ w', (Instr.entryStore t v u y).run P w = .ok () w' ∧ Ext DR S β w S β w' ∧ HInv S β w' h' := by
 unfold entryStoreD at hd
 split at hd
 case h_2 => cases hd
 rename_i r j hj
 obtain ⟨q, rfl⟩ := natOf_spec hj hu
 split at hd
 case h_2 => cases hd
 rename_i ks vs hr
 split at hd
 case isFalse => cases hd
 rename_i hlt
 cases hd
 cases hv with
 | map _ b c k hb =>
 obtain ⟨o1, o2, es, o3, o4, o5, o6, o7⟩ := hi.obj r _ b c k hr hb
 have hw := map_written (DR := DR) (es' := es.modify j fun e => { e with val := y }) (ks' := ks) (vs' := vs.set j x) hi hr hb o3 (by simp [o2]) (rising_modify o4 _ _ fun _ => rfl) (by simp [o5])
  (fun w' hK i e' z he hz => by
   rcases get_modify he with ⟨rfl, e0, he0, rfl⟩ | ⟨hne, he0⟩
   ·exact (o6 i e0 z he0 hz).mono hK
   ·exact (o6 i e' z he0 hz).mono hK)
  (fun w' hK i e' z he hz => by
   rw [List.getElem?_set] at hz
   rcases get_modify he with ⟨rfl, e0, he0, rfl⟩ | ⟨hne, he0⟩
   ·rw [if_pos rfl] at hz
    rw [if_pos hlt] at hz
    cases hz; exact hy.mono hK (fun _ _ h => h)
   ·rw [if_neg (Ne.symm hne)] at hz
    exact (o7 i e' z he0 hz).mono hK (fun _ _ h => h))
 have hjs : j < es.size := by omega
 have hfind : es.findIdx? (fun e => (e.born : Int) == (j : Int)) = some j := by
  rw [Array.findIdx?_eq_some_iff_getElem]
  refine ⟨hjs, by simp [o4 j es[j] (Array.getElem?_eq_getElem hjs)], fun i hij => ?_⟩
  have := o4 i es[i] (Array.getElem?_eq_getElem (by omega))
  simp [this]
  omega
 refine ⟨_, ?_, hw⟩
 have hint : (asInt (.int q (j : Int))).run P w = .ok (j : Int) w := by simp [asInt, asIntOf]
 simp only [Instr.entryStore, Sem.run_bind, MapKept.run_getObj_map o3, hint, Result.andThen_ok, hfind, MapKept.run_setObj_map _ o3, setBlock, Array.size_modify]
theorem makeMap_sound {S : Nat → Nat → Prop} {β : Blocks} {w : World} {h : List AObj} (hi : HInv S β w h) (t : Nat) :
  ∃ β', Ext DR S β w S β' (w.alloc (.map #[] 0)) ∧ HInv S β' (w.alloc (.map #[] 0)) (h ++ [.map [] []]) ∧ RelD S β' (w.alloc (.map #[] 0)) (.map (some w.heap.size)) (.map h.length) := by
 obtain ⟨e1, e2⟩ := own_allocO (DR := DR) hi (.map #[] 0) 0 1 (.map [] []) rfl ⟨rfl, rfl, #[], heap_alloc_new w _, fun i e he => by simp at he, rfl, fun i e x he => by simp at he, fun i e x he => by simp at he⟩
 refine ⟨_, e1, e2, .map _ _ 0 1 ?_⟩
 rw [← hi.len]
 simp
theorem range_sound {P : Program} {T : Nat → Option TI} (hT : ∀ t i, T t = some i → tiOf P t = some i) {S : Nat → Nat → Prop} {β : Blocks} {w : World} {h h' : List AObj} (hi : HInv S β w h) {t : Nat} {x d : D}
  (hd : rangeD T h t x = some (d, h')) {v : Value} (hv : RelD S β w v x) : ∃ y w' β', (Instr.range t v).run P w = .ok y w' ∧ Ext DR S β w S β' w' ∧ HInv S β' w' h' ∧ RelD S β' w' y d := by
 unfold rangeD at hd
 split at hd
 ·cases hd
 rename_i ti hti
 obtain ⟨info, desc, z, g1, g2, g3, g4, g5, g6, g7, g8, _⟩ := tiOf_spec (hT _ _ hti)
 split at hd
 case h_2 => cases hd
 rename_i kt et ks vs hkd hkv
 obtain ⟨rfl, rfl⟩ := Prod.mk.inj (Option.some.inj hd)
 rw [hkd] at g5
 have := tkOf_map g5
 subst this
 have fin : ∀ mv : Option Nat, v = .map mv → (Instr.range t v).run P w = .ok (.pointer (some ⟨w.heap.size, 0, none⟩)) (w.alloc (.mapIter mv ks.length #[] ks.length)) →
   ∃ y w' β', (Instr.range t v).run P w = .ok y w' ∧ Ext DR S β w S β' w' ∧ HInv S β' w' (h ++ [.iter x ks.length [] ks.length]) ∧ RelD S β' w' y (.ptr h.length 0) := by
  intro mv hmv hrun
  have hk := keeps_alloc hi (.mapIter mv ks.length #[] ks.length) S (fun _ _ h => h)
  have hp : ∀ (r : Nat) x, β[r]? = some x → (β ++ [(w.heap.size, 0, 1)])[r]? = some x := fun r x hx => (getElem?_snoc _ _ _ _).2 (.inl ⟨hx, lt_of_getElem? hx⟩)
  obtain ⟨e1, e2⟩ := own_allocO (DR := DR) hi (.mapIter mv ks.length #[] ks.length) 0 1 (.iter x ks.length [] ks.length) rfl ⟨rfl, mv, heap_alloc_new w _, by rw [← hmv]; exact hv.mono hk hp⟩
  refine ⟨_, _, _, hrun, e1, e2, .ptr _ _ _ 0 1 ?_⟩
  rw [← hi.len]
  simp
 rcases mapKV_sound hi hkv hv with ⟨rfl, rfl, rfl, _⟩ | ⟨b, es, rfl, _, m1, m2, m3, m4, m5, m6⟩
 ·refine fin none rfl ?_
  simp [Instr.range, run_underlying g2, Result.andThen]
 ·refine fin (some b) rfl ?_
  simp [Instr.range, run_underlying g2, MapKept.run_getObj_map m1, Result.andThen, m3]
theorem entry_sound {P : Program} {S : Nat → Nat → Prop} {β : Blocks} {w : World} {h : List AObj} (hi : HInv S β w h) {x d : D} (hd : entryD h x = some d) {v : Value} (hv : RelD S β w v x) :
  ∃ y, (Instr.entry v).run P w = .ok y w ∧ RelD S β w y d := by
 unfold entryD at hd
 split at hd
 case h_2 => cases hd
 rename_i r
 split at hd
 case h_2 => cases hd
 rename_i m since seen last hr
 split at hd
 case h_2 => cases hd
 rename_i j ks vs hj hkv hnil
 split at hd
 case isFalse => cases hd
 rename_i hlast
 split at hd
 case h_2 => cases hd
 rename_i k d0 hk hd0
 cases hd
 cases hv with
 | ptr _ _ b c q hb =>
 obtain ⟨o1, mv, o2, o3⟩ := hi.obj r _ b c q hr hb
 rcases mapKV_sound hi hkv o3 with ⟨_, _, _, hn⟩ | ⟨b', es, hmv, _, m1, m2, m3, m4, m5, m6⟩
 ·rw [hn] at hnil; cases hnil
 cases hmv
 have hjs : j < es.size := by rw [m3]; exact lt_of_getElem? hk
 have hje := Array.getElem?_eq_getElem hjs
 have hfind : es.find? (fun e => e.born == j) = some es[j] := by
  rw [Array.find?_eq_some_iff_getElem]
  refine ⟨by simp [m2 j _ hje], j, hjs, rfl, fun i hij => ?_⟩
  have := m2 i es[i] (Array.getElem?_eq_getElem (by omega))
  simp [this]
  omega
 refine ⟨.tuple #[es[j].key, es[j].val], ?_, rel_pair (.v _ _ (m5 j _ k hje hk)) (m6 j _ d0 hje hd0)⟩
 have hback : seen.toArray.back? = some j := by simpa using hj
 simp [Instr.entry, getObj, Sem.run, o2, Result.andThen, hback, m1, m3, hlast, hfind]
theorem next_sound {P : Program} {S : Nat → Nat → Prop} {β : Blocks} {w : World} {h : List AObj} (hi : HInv S β w h) {r : Nat} {m : D} {since last : Nat} {seen : List Nat} {ks : List V} {vs : List D} (hr : h[r]? = some (.iter m since seen last))
  (hkv : mapKV h m = some (ks, vs)) (hs : ks.length ≤ since) (hsl : since ≤ last) (ty : TypeId) {v : Value} (hv : RelD S β w v (.ptr r 0)) :
  ((∀ j, j < ks.length → j ∈ seen) ∧ (Instr.next v false ty).run P w = .ok (.tuple #[.bool false]) w) ∨
  ∃ j k d w' y, j ∉ seen ∧ ks[j]? = some k ∧ vs[j]? = some d ∧ (Instr.next v false ty).run P w = .ok y w' ∧ Ext DR S β w S β w' ∧ HInv S β w' (h.set r (.iter m since (seen ++ [j]) ks.length)) ∧ RelD S β w' y (mkTuple [.v (.bool true), .v k, d]) := by
 cases hv with
 | ptr _ _ b c q hb =>
 obtain ⟨o1, mv, o2, o3⟩ := hi.obj r _ b c q hr hb
 rcases mapKV_sound hi hkv o3 with ⟨hmv, rfl, rfl, hn⟩ | ⟨b', es, hmv, hnm, m1, m2, m3, m4, m5, m6⟩
 ·cases hmv
  refine .inl ⟨fun j hj => by simp at hj, ?_⟩
  simp [Instr.next, getObj, Sem.run, o2, Result.andThen]
 cases hmv
 have hold : ∀ x ∈ es.toList, x.born < since := by
  intro x hx
  obtain ⟨j, hj⟩ := List.getElem?_of_mem hx
  have hj' : es[j]? = some x := by simpa using hj
  have := m2 j x hj'
  have := (Array.getElem?_eq_some_iff.1 hj').1
  omega
 rcases run_next_at (P := P) w ty b b' since last seen.toArray es es.size o2 m1 hold hsl with ⟨h0, hrun⟩ | ⟨e, he, w1, hal, hrun⟩
 ·refine .inl ⟨fun j hj => ?_, hrun⟩
  have hjs : j < es.size := by omega
  have hemp : Go.leftOf es seen.toArray = #[] := Array.eq_empty_of_size_eq_zero h0
  unfold Go.leftOf at hemp
  rw [Array.filter_eq_empty_iff] at hemp
  have := hemp es[j] (Array.getElem_mem hjs)
  have hbj := m2 j _ (Array.getElem?_eq_getElem hjs)
  simpa [hbj] using this
 ·unfold Go.leftOf at he
  have he' : e ∈ es ∧ ¬ e.born ∈ seen := by simpa using he
  obtain ⟨j, hj⟩ := Array.getElem?_of_mem he'.1
  have hbj := m2 j e hj
  have hjs : j < es.size := (Array.getElem?_eq_some_iff.1 hj).1
  have hk := List.getElem?_eq_getElem (l := ks) (i := j) (by omega)
  have hd := List.getElem?_eq_getElem (l := vs) (i := j) (by omega)
  have hdrew : ∀ x : World, x = w ∨ x = w.drew → x.heap = w.heap ∧ x.os = w.os ∧ x.tape = w.tape ∧ x.output = w.output ∧ w.drawn ≤ x.drawn := by
   rintro x (rfl | rfl)
   ·exact ⟨rfl, rfl, rfl, rfl, Nat.le_refl _⟩
   ·exact ⟨rfl, rfl, rfl, rfl, by simp⟩
  obtain ⟨g1, g2, g3, g4, g5⟩ := hdrew w1 hal
  have hblt : b < w1.heap.size := by rw [g1]; exact (Array.getElem?_eq_some_iff.1 o2).1
  have hset : ∀ i, (setBlock w1 b (.mapIter (some b') since (seen.toArray.push e.born) es.size)).heap[i]? = if i = b then some (.mapIter (some b') since (seen.toArray.push e.born) es.size) else w.heap[i]? := by
   intro i
   simp only [setBlock, Array.getElem?_setIfInBounds, g1]
   by_cases hib : i = b
   ·subst hib; rw [if_pos rfl, if_pos rfl, if_pos (by rw [← g1]; exact hblt)]
   ·rw [if_neg (Ne.symm hib), if_neg hib]
  obtain ⟨x1, x2⟩ := own_write (DR := DR) (o' := .iter m since (seen ++ [j]) ks.length) hi hr rfl hb (w' := setBlock w1 b (.mapIter (some b') since (seen.toArray.push e.born) es.size)) (by simp [setBlock, g1]) (fun i hi => by rw [hset, if_neg hi]) g2 g3 g4 g5 rfl
   (fun hK => ⟨o1, some b', by rw [hset, if_pos rfl, hbj, m3]; simp, o3.mono hK (fun _ _ h => h)⟩)
  refine .inr ⟨j, ks[j]'(by omega), vs[j]'(by omega), _, _, by rw [← hbj]; exact he'.2, hk, hd, hrun, x1, x2, ?_⟩
  refine rel_mkTuple rfl (fun i x y hx hy => ?_)
  match i with
  | 0 => simp at hx hy; subst hx; subst hy; exact .v _ _ (.bool _)
  | 1 => simp at hx hy; subst hx; subst hy; exact .v _ _ ((m5 j e _ hj hk).mono x1.keeps)
  | 2 => simp at hx hy; subst hx; subst hy; exact (m6 j e _ hj hd).mono x1.keeps (fun _ _ h => h)
  | i + 3 => simp at hx
theorem lenMap_sound {P : Program} {T : Nat → Option TI} (hT : ∀ t i, T t = some i → tiOf P t = some i) {S : Nat → Nat → Prop} {β : Blocks} {w : World} {h : List AObj} (hi : HInv S β w h) {t ty : Nat} {x d : D} (ht : mapT T t = true)
  (hd : lenMapD h x = some d) {v : Value} (hv : RelD S β w v x) : ∃ y, (Builtin.len_ #[t] ty #[v]).run P w = .ok y w ∧ RelD S β w y d := by
 unfold mapT at ht
 split at ht
 case h_2 => cases ht
 rename_i ti hti
 split at ht
 case h_2 => cases ht
 rename_i kk ee hk
 obtain ⟨info, desc, z, g1, g2, g3, g4, g5, g6, g7, g8, _⟩ := tiOf_spec (hT _ _ hti)
 rw [hk] at g5
 have := tkOf_map g5
 subst this
 unfold lenMapD at hd
 split at hd
 case h_2 => cases hd
 rename_i r
 split at hd
 case h_2 => cases hd
 rename_i ks vs hr
 cases hd
 cases hv with
 | map _ b c k hb =>
 obtain ⟨h1, h2, es, h3, h4, h5, h6, h7⟩ := hi.obj r _ b c k hr hb
 exact ⟨.int .i64 es.size, by simp [Builtin.len_, run_underlying g2, MapKept.run_getObj_map h3, goInt, Result.andThen], by rw [h5]; exact .v _ _ (.int _ _)⟩
end Go.Abs
