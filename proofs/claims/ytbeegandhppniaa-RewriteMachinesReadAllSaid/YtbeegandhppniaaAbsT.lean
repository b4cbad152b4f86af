import Derived.Test.YtbeegandhppniaaAbsS
import Derived.Laws.Slices
namespace Go.Abs
set_option linter.unusedVariables false
set_option linter.unusedSimpArgs false
set_option linter.unnecessarySimpa false
theorem natOf_spec {S : Nat → Nat → Prop} {β : Blocks} {w : World} {v : Value} {d : D} {n : Nat} (h : natOf d = some n) (hv : RelD S β w v d) : ∃ k, v = .int k n := by
 unfold natOf at h
 split at h
 ·split at h
  ·cases h
   cases hv.of_v
   exact ⟨_, by congr 1; omega⟩
  ·cases h
 ·cases h
theorem run_bound {P : Program} {w : World} (k : IntKind) (n y : Nat) (c : BoundsCode) (h : n ≤ y) : (Instr.sliceBound (.int k n) y c).run P w = .ok n w := by
 simp only [Instr.sliceBound, asIntOf, Sem.run_bind, Sem.run_pure, Result.andThen_ok]
 rw [if_pos (by omega)]
 simp
def RelO (S : Nat → Nat → Prop) (β : Blocks) (w : World) (v : Option Value) (d : Option D) : Prop := match v, d with
 | none, none => True
 | some v, some d => RelD S β w v d
 | _, _ => False
theorem bounds_sound {P : Program} {S : Nat → Nat → Prop} {β : Blocks} {w : World} (isSlice : Bool) {len cap : Nat} (hlc : len ≤ cap) {lo hi mx : Option D} {vlo vhi vmx : Option Value} {l h : Nat} {m : Option Nat}
  (hb : boundsD len lo hi mx = some (l, h, m)) (h1 : RelO S β w vlo lo) (h2 : RelO S β w vhi hi) (h3 : RelO S β w vmx mx) :
  (Instr.sliceBounds isSlice len cap vlo vhi vmx).run P w = .ok (l, h, m.getD cap) w ∧ l ≤ h ∧ h ≤ m.getD cap ∧ m.getD cap ≤ cap ∧ h ≤ len := by
 unfold boundsD at hb
 split at hb
 ·rename_i l' h' hl hh
  split at hb
  ·cases hb
   cases vmx with
   | some _ => exact h3.elim
   | none =>
   have hhr : ∀ (code : BoundsCode), (match vhi with | some v => Instr.sliceBound v cap code | none => pure len : Sem Nat).run P w = .ok h w := by
    intro code
    cases hi with
    | none => cases vhi with
     | none => simp [natOr] at hh; subst hh; rfl
     | some _ => exact h2.elim
    | some d => cases vhi with
     | none => exact h2.elim
     | some v => obtain ⟨k, rfl⟩ := natOf_spec hh h2; exact run_bound k h cap code (by omega)
   have hlr : ∀ (code : BoundsCode), (match vlo with | some v => Instr.sliceBound v h code | none => pure 0 : Sem Nat).run P w = .ok l w := by
    intro code
    cases lo with
    | none => cases vlo with
     | none => simp [natOr] at hl; subst hl; rfl
     | some _ => exact h1.elim
    | some d => cases vlo with
     | none => exact h1.elim
     | some v => obtain ⟨k, rfl⟩ := natOf_spec hl h1; exact run_bound k l h code (by omega)
   refine ⟨?_, by omega, by simp; omega, by simp, by omega⟩
   simp only [Instr.sliceBounds, Sem.run_bind, Sem.run_pure, Result.andThen_ok, Option.isSome_none]
   have e1 := hhr (if isSlice = true then .sliceAcap else .sliceAlen)
   have e2 := hlr .sliceB
   cases vhi <;> cases vlo <;> simp_all
  ·cases hb
 ·rename_i l' h' m0 hl hh
  split at hb
  ·rename_i m' dh hm
   split at hb
   ·rename_i hc
    cases hb
    cases vmx with
    | none => exact h3.elim
    | some vm =>
     obtain ⟨km, rfl⟩ := natOf_spec hm h3
     cases vhi with
     | none => exact h2.elim
     | some vh =>
      obtain ⟨kh, rfl⟩ := natOf_spec (show natOf dh = some h from hh) h2
      have hlr : ∀ (code : BoundsCode), (match vlo with | some v => Instr.sliceBound v h code | none => pure 0 : Sem Nat).run P w = .ok l w := by
       intro code
       cases lo with
       | none => cases vlo with
        | none => simp [natOr] at hl; subst hl; rfl
        | some _ => exact h1.elim
       | some d => cases vlo with
        | none => exact h1.elim
        | some v => obtain ⟨k, rfl⟩ := natOf_spec hl h1; exact run_bound k l h code (by omega)
      refine ⟨?_, by omega, by simp; omega, by simp; omega, by omega⟩
      simp only [Instr.sliceBounds, Sem.run_bind, run_bound km m' cap _ (show m' ≤ cap by omega), Result.andThen_ok, run_bound kh h m' _ (show h ≤ m' by omega), Option.isSome_some, if_true, Option.getD_some]
      have e2 := hlr .slice3C
      cases vlo <;> simp_all
   ·cases hb
  ·cases hb
 ·cases hb
theorem cutRow_sound {DR : Prop} {P : Program} {T : Nat → Option TI} (hT : ∀ t i, T t = some i → tiOf P t = some i) {S : Nat → Nat → Prop} {β : Blocks} {w : World} {hp h' : List AObj} (hi : HInv S β w hp) {t : Nat} {x : D} {lo hig mx : Option D} {d : D}
  (hd : cutRowD T hp t x lo hig mx = some (d, h')) {v : Value} {vlo vhi vmx : Option Value} (hv : RelD S β w v x) (h1 : RelO S β w vlo lo) (h2 : RelO S β w vhi hig) (h3 : RelO S β w vmx mx) :
  ∃ y, (Instr.sliceAt t v vlo vhi vmx).run P w = .ok y w ∧ Ext DR S β w S β w ∧ HInv S β w h' ∧ RelD S β w y d := by
 unfold cutRowD at hd
 split at hd
 ·rename_i r len dj
  split at hd
  ·cases hd
  ·rename_i ti hti
   obtain ⟨info, desc, z, g1, g2, g3, g4, g5, g6, g7, g8, _⟩ := tiOf_spec (hT _ _ hti)
   split at hd
   ·rename_i e j k es hk hj hes
    rw [hk] at g5
    have := tkOf_slice g5
    subst this
    split at hd
    ·rename_i hc
     obtain ⟨hsz, hjl⟩ := hc
     obtain ⟨rfl, rfl⟩ := Prod.mk.inj (Option.some.inj hd)
     unfold sizeT at hsz
     obtain ⟨i, hie, rfl⟩ := Option.map_eq_some_iff.1 hsz
     obtain ⟨info', desc', z', k1, k2, k3, k4, k5, k6, k7, k8, _⟩ := tiOf_spec (hT _ _ hie)
     cases hv with
     | osl r off len b c k p cap full hbb hlen hpp hcap =>
     simp only [Bool.false_eq_true, if_false, Nat.sub_zero] at hcap
     subst hcap
     have hob := hi.obj r _ b cap k hes hbb
     obtain ⟨o1, o2, o3, o4, o5, cur, et, o6, o7, o8⟩ := hob
     subst o1
     have hb : boundsD len none (some dj) none = some (0, j, none) := by
      simp [boundsD, natOr, hj, hjl]
     obtain ⟨hrb, hl1, hl2, hl3, hl4⟩ := bounds_sound (P := P) true (show len ≤ cap by omega) hb h1 h2 h3
     have hrun : (Instr.sliceAt t (.slice (some ⟨b, p, none⟩) len cap) vlo vhi vmx).run P w = .ok (.slice (some ⟨b, p, none⟩) j cap) w := by
      simp only [Instr.sliceAt, Sem.run_bind, run_underlying g2, Result.andThen_ok, Instr.slice, hrb, run_sizeOf k1, k7, Sem.run_pure, Option.map_some, Addr.add_lit, Nat.zero_mul, Nat.add_zero, Nat.sub_zero, Option.getD_none, ite_self]
     obtain ⟨e1, e2⟩ := own_write (DR := DR) (w' := w) (o' := .row i.size (es.take j)) hi hes rfl hbb rfl (fun _ _ => rfl) rfl rfl rfl (Nat.le_refl _) rfl fun _ =>
      ⟨rfl, o2, o3, by rw [List.length_take]; omega, fun q x hx => o5 q x (by rw [List.getElem?_take] at hx; split at hx; exact hx; cases hx), cur, et, o6, o7,
       fun q j' x y v hx => o8 q j' x y v (by rw [List.getElem?_take] at hx; split at hx; exact hx; cases hx)⟩
     exact ⟨_, hrun, e1, e2, .osl r 0 j b cap i.size p cap false hbb (by omega) hpp (by simp)⟩
    ·cases hd
   ·cases hd
 ·cases hd
theorem slice_sound {P : Program} {T : Nat → Option TI} (hT : ∀ t i, T t = some i → tiOf P t = some i) {S : Nat → Nat → Prop} {β : Blocks} {w : World} {hp : List AObj} (hi : HInv S β w hp) {t : Nat} {x : D} {lo hig mx : Option D} {d : D}
  (hd : sliceD T hp t x lo hig mx = some d) {v : Value} {vlo vhi vmx : Option Value} (hv : RelD S β w v x) (h1 : RelO S β w vlo lo) (h2 : RelO S β w vhi hig) (h3 : RelO S β w vmx mx) :
  ∃ y, (Instr.sliceAt t v vlo vhi vmx).run P w = .ok y w ∧ RelD S β w y d := by
 unfold sliceD at hd
 split at hd
 ·cases hd
 ·rename_i ti hti
  obtain ⟨info, desc, z, g1, g2, g3, g4, g5, g6, g7, g8, _⟩ := tiOf_spec (hT _ _ hti)
  split at hd
  ·-- a string
   rename_i s hk
   rw [hk] at g5
   have := tkOf_str g5
   subst this
   split at hd
   ·rename_i l h hb
    cases hd
    have hvv := hv.of_v
    cases hvv
    obtain ⟨hr, hl1, hl2, hl3, hl4⟩ := bounds_sound (P := P) false (Nat.le_refl s.size) hb h1 h2 h3
    have hm : vmx = none := by
     cases vmx with
     | none => rfl
     | some _ =>
      cases mx with
      | none => exact h3.elim
      | some _ =>
       unfold boundsD at hb
       split at hb
       ·rename_i hmx; cases hmx
       ·split at hb
        ·split at hb <;> cases hb
        ·cases hb
       ·cases hb
    subst hm
    refine ⟨.string (s.extract l h), ?_, .v _ _ (.str _)⟩
    simp only [Instr.sliceAt, Sem.run_bind, run_underlying g2, Result.andThen_ok, Instr.slice, Option.isSome_none, Bool.false_eq_true, if_false, hr, Sem.run_pure]
   ·cases hd
  ·-- a value
   rename_i e fl es hk
   rw [hk] at g5
   have := tkOf_slice g5
   subst this
   split at hd
   ·rename_i l h m k hb hsz
    split at hd
    ·rename_i hho
     cases hd
     unfold sizeT at hsz
     obtain ⟨i, hie, rfl⟩ := Option.map_eq_some_iff.1 hsz
     obtain ⟨info', desc', z', k1, k2, k3, k4, k5, k6, k7, k8, _⟩ := tiOf_spec (hT _ _ hie)
     have hrun : ∀ (base : Option Addr) (cap : Nat), es.length ≤ cap → (Instr.sliceAt t (.slice base es.length cap) vlo vhi vmx).run P w =
       .ok (.slice (if m.getD cap = l then base else base.map (·.add (l * i.size))) (h - l) (m.getD cap - l)) w := by
      intro base cap hc
      have hr := (bounds_sound (P := P) true hc hb h1 h2 h3).1
      simp only [Instr.sliceAt, Sem.run_bind, run_underlying g2, Result.andThen_ok, Instr.slice, hr, run_sizeOf k1, k7, Sem.run_pure]
     have hfullcap : ∀ cap : Nat, es.length ≤ cap → (fl.isFull = true → cap = es.length) → fullTo fl.isFull es.length h m = true → m.getD cap = h := by
      intro cap hc hf hfull
      cases m with
      | none => simp [fullTo] at hfull; have := hf hfull.1; simp; omega
      | some m => simpa [fullTo] using hfull
     have hflag : (if fullTo fl.isFull es.length h m = true then SFlag.full else SFlag.plain).isNil ≠ some true := by split <;> decide
     have hflag' : (if fullTo fl.isFull es.length h m = true then SFlag.full else SFlag.plain).isFull = true → fullTo fl.isFull es.length h m = true := by
      intro hh
      split at hh
      ·assumption
      ·cases hh
     have hvv := hv.of_v
     generalize hes : V.sl fl es = vsl at hvv
     cases hvv <;> try (cases hes; done)
     ·-- nil
      cases hes
      obtain ⟨hr, hl1, hl2, hl3, hl4⟩ := bounds_sound (P := P) true (Nat.le_refl 0) (len := 0) (cap := 0) (by simpa using hb) h1 h2 h3
      have hl0 : l = 0 := by simp at hl4; omega
      have hh0 : h = 0 := by simpa using hl4
      subst hl0 hh0
      refine ⟨_, hrun none 0 (Nat.le_refl _), .v _ _ ?_⟩
      have : m.getD 0 = 0 := by omega
      simp only [this, if_true, Nat.sub_self, List.drop_nil, List.take_nil]
      exact .slnil _ (by split <;> decide)
     ·-- empty
      rename_i fl' a cap hn hf hm
      cases hes
      obtain ⟨hr, hl1, hl2, hl3, hl4⟩ := bounds_sound (P := P) true (Nat.zero_le cap) (len := 0) (cap := cap) (by simpa using hb) h1 h2 h3
      have hl0 : l = 0 := by simp at hl4; omega
      have hh0 : h = 0 := by simpa using hl4
      subst hl0 hh0
      refine ⟨_, hrun (some a) cap (Nat.zero_le _), .v _ _ ?_⟩
      simp only [List.drop_nil, List.take_nil, Nat.sub_zero, Nat.zero_mul, Option.map_some, Addr.add_zero', ite_self]
      exact .slemp _ a _ hflag (fun hh => by have := hfullcap cap (Nat.zero_le _) (by simpa using hf) (hflag' hh); omega) (by omega)
     ·rename_i fl' b off cap k' n es' vals hn hnil hf hc hm hsol hs hr
      cases hes
      subst hn
      obtain ⟨hrb, hl1, hl2, hl3, hl4⟩ := bounds_sound (P := P) true hc hb h1 h2 h3
      refine ⟨_, hrun (some ⟨b, off, none⟩) cap hc, .v _ _ ?_⟩
      have hlen : ((es.drop l).take (h - l)).length = h - l := by simp; omega
      by_cases heq : h - l = 0
      ·have hempty : (es.drop l).take (h - l) = [] := by rw [heq]; rfl
       rw [hempty, heq]
       have hcap0 : (if fullTo fl.isFull es.length h m = true then SFlag.full else SFlag.plain).isFull = true → m.getD cap - l = 0 := fun hh => by have := hfullcap cap hc hf (hflag' hh); omega
       split
       ·exact .slemp _ _ _ hflag hcap0 (by omega)
       ·exact .slemp _ _ _ hflag hcap0 (by omega)
      ·have hml : ¬ m.getD cap = l := by omega
       simp only [hml, if_false, Option.map_some, Addr.add_lit]
       have hkk : k' = i.size := by
        cases es with
        | nil => simp at hl4; omega
        | cons x0 r => rw [← (hsol 0 x0 rfl).2]; simpa [headOk] using hho
       subst hkk
       refine .sl _ b (off + l * i.size) _ i.size (h - l) _ (fun q => vals (l * i.size + q)) hlen.symm hflag (fun hh => by have := hfullcap cap hc hf (hflag' hh); omega) (by omega) (by omega) (fun q x hx => ?_) (fun q j hq hj => ?_) (fun q j x y hx hy => ?_)
       ·rw [List.getElem?_take] at hx
        split at hx
        ·rw [List.getElem?_drop] at hx; exact hsol _ x hx
        ·cases hx
       ·have := hs (l + q) j (by omega) hj
        rw [Nat.add_mul] at this
        have e1 : off + l * i.size + (q * i.size + j) = off + (l * i.size + q * i.size + j) := by omega
        have e2 : l * i.size + (q * i.size + j) = l * i.size + q * i.size + j := by omega
        rw [e1, e2]
        exact this
       ·rw [List.getElem?_take] at hx
        split at hx
        ·rw [List.getElem?_drop] at hx
         have := hr (l + q) j x y hx hy
         rw [Nat.add_mul, Nat.add_assoc] at this
         exact this
        ·cases hx
    ·cases hd
   ·cases hd
  ·-- an own slice
   rename_i e r off len full hk
   rw [hk] at g5
   have := tkOf_slice g5
   subst this
   split at hd
   ·rename_i l h m k hb hsz
    split at hd
    ·rename_i hsh
     unfold sizeT at hsz
     obtain ⟨i, hie, rfl⟩ := Option.map_eq_some_iff.1 hsz
     obtain ⟨info', desc', z', k1, k2, k3, k4, k5, k6, k7, k8, _⟩ := tiOf_spec (hT _ _ hie)
     cases hv with
     | osl r off len b c k p cap full hbb hlen hpp hcap =>
     have hlc : len ≤ cap := by rw [hcap]; split <;> omega
     obtain ⟨hrb, hl1, hl2, hl3, hl4⟩ := bounds_sound (P := P) true hlc hb h1 h2 h3
     have hkk : k = i.size ∧ c ≤ maxLen := by
      unfold shapeOk at hsh
      split at hsh
      ·rename_i k' es hes
       obtain ⟨o1, o2, o3, _⟩ := hi.obj r _ b c k hes hbb
       rw [beq_iff_eq] at hsh
       exact ⟨by omega, o3⟩
      ·rename_i cs hcs
       obtain ⟨o1, o2, _⟩ := hi.obj r _ b c k hcs hbb
       rw [beq_iff_eq] at hsh
       exact ⟨by omega, o2⟩
      ·cases hsh
     obtain ⟨rfl, hcm⟩ := hkk
     subst hpp
     have hrun : (Instr.sliceAt t (.slice (some ⟨b, off * i.size, none⟩) len cap) vlo vhi vmx).run P w =
       .ok (.slice (if m.getD cap = l then some ⟨b, off * i.size, none⟩ else some ⟨b, off * i.size + l * i.size, none⟩) (h - l) (m.getD cap - l)) w := by
      simp only [Instr.sliceAt, Sem.run_bind, run_underlying g2, Result.andThen_ok, Instr.slice, hrb, run_sizeOf k1, k7, Sem.run_pure, Option.map_some, Addr.add_lit]
     have hcapm : cap ≤ maxLen := by rw [hcap]; split <;> omega
     have hfullcap : fullTo full len h m = true → m.getD cap = h := by
      intro hfull
      cases m with
      | none => simp [fullTo] at hfull; rw [if_pos hfull.1] at hcap; simp; omega
      | some m => simpa [fullTo] using hfull
     split at hd
     ·rename_i hlh
      rw [beq_iff_eq] at hlh
      cases hd
      subst hlh
      refine ⟨_, hrun, .v _ _ ?_⟩
      rw [Nat.sub_self]
      have hcap0 : (if fullTo full len l m = true then SFlag.full else SFlag.plain).isFull = true → m.getD cap - l = 0 := by
       intro hh
       split at hh
       ·rename_i hf; have := hfullcap hf; omega
       ·cases hh
      split <;> exact .slemp _ _ _ (by split <;> decide) hcap0 (by omega)
     ·rename_i hlh
      split at hd
      ·rename_i hmf
       cases hd
       refine ⟨_, hrun, ?_⟩
       have hne : l ≠ h := by simpa using hlh
       have hml : ¬ m.getD cap = l := by omega
       rw [if_neg hml]
       refine .osl r (off + l) (h - l) b c i.size _ _ _ hbb (by omega) (by rw [Nat.add_mul]) ?_
       cases hf : fullTo full len h m with
       | true => rw [hfullcap hf]; simp
       | false =>
        rw [hf] at hmf
        simp only [Bool.or_false] at hmf
        cases m with
        | some m => simp at hmf
        | none =>
         simp only [Option.getD_none, Bool.false_eq_true, if_false]
         cases full with
         | false => simp at hcap; omega
         | true => simp at hmf
      ·cases hd
    ·cases hd
   ·cases hd
  ·-- a beginning of an array of one's own
   rename_i n e r hk
   rw [hk] at g5
   have := tkOf_array g5
   subst this
   split at hd
   ·rename_i dj
    split at hd
    ·rename_i j cs hj hcs hsz
     split at hd
     ·rename_i hc
      obtain ⟨hjn, hcl⟩ := hc
      cases hd
      unfold sizeT at hsz
      obtain ⟨i, hie, hs1⟩ := Option.map_eq_some_iff.1 hsz
      obtain ⟨info', desc', z', k1, k2, k3, k4, k5, k6, k7, k8, _⟩ := tiOf_spec (hT _ _ hie)
      cases hv with
      | ptr r off b c k hbb =>
      obtain ⟨o1, o2, o3, _⟩ := hi.obj r _ b c k hcs hbb
      subst o1
      have hlo : vlo = none := by cases vlo with | none => rfl | some _ => exact h1.elim
      have hmx : vmx = none := by cases vmx with | none => rfl | some _ => exact h3.elim
      subst hlo hmx
      obtain ⟨u, rfl⟩ : ∃ u, vhi = some u := by cases vhi with | none => exact h2.elim | some u => exact ⟨u, rfl⟩
      have h2 : RelD S β w u dj := h2
      obtain ⟨kj, rfl⟩ := natOf_spec hj h2
      have ha : P.arrayLen t = n := by simp [Program.arrayLen, g2]
      have he : P.elem t = e := by simp [Program.elem, g2]
      refine ⟨.slice (some ⟨b, 0, none⟩) j n, ?_, .osl r 0 j b c 1 0 n false hbb (by omega) (by simp) (by simp; omega)⟩
      rw [run_sliceAt_array_h w t ⟨b, 0, none⟩ (by rw [g2, ha, he]) kj (j : Int) (by omega) (by rw [ha]; omega), he, run_sizeOf k1, ha]
      simp [slicedAt, Addr.add_lit]
     ·cases hd
    ·cases hd
   ·cases hd
  ·cases hd
end Go.Abs
