import Derived.Test.YtgmbaemdedachaaAbsX
import Derived.Laws.BytesString
import Derived.MapKept
import Derived.Maps.RangeRun
import Derived.Laws.Cover1
namespace Go.Abs
set_option linter.unusedVariables false
set_option linter.unusedSimpArgs false
set_option linter.unnecessarySimpa false
theorem eqFs_sound {P : Program} {T : Nat → Option TI} (hT : ∀ t i, T t = some i → tiOf P t = some i) {S : Nat → Nat → Prop} {w : World} (n m : Nat)
  (ih : ∀ (t : Nat) (x y : V) (b : Bool) (v u : Value), eqV T n t x y = some b → RelV S w v x → RelV S w u y → (Op.equalIn m t v u).run P w = .ok b w)
  (vs us : Array Value) (xs ys : List V) (hv : RelV S w (.agg vs) (.agg xs)) (hu : RelV S w (.agg us) (.agg ys)) :
  ∀ (fs : List Field) (b : Bool), (∀ f ∈ fs, f.name ≠ "_") → eqFs (eqV T n) T xs ys (fs.map fun f => (f.offset, f.type)) = some b → (Op.eqFields m vs us fs).run P w = .ok b w
 | [], b, _, h => by simp [eqFs] at h; subst h; rfl
 | f :: fs, b, hn, h => by
  simp only [List.map_cons, eqFs] at h
  split at h
  ·cases h
  ·rename_i i hi
   split at h
   ·rename_i a c ha hc
    split at h
    ·rename_i p q hp hq
     cases h
     have hpart : ∀ (ws : Array Value) (zs : List V) (z : V), RelV S w (.agg ws) (.agg zs) → (cut zs f.offset i.size).bind (mkOfV i.kind.isAgg) = some z → ∃ r, (part f.type ws f.offset).run P w = .ok r w ∧ RelV S w r z := by
      intro ws zs z hw hz
      cases hw with
      | agg ws zs hl hr =>
      obtain ⟨r, h1, h2⟩ := part_sound (S := S) (β := []) (w := w) (hT _ _ hi) (vs := ws) (cs := zs.map .v) (by simpa using hl) (fun j v x hv hx => by
       simp only [zG] at hx
       obtain ⟨y, hy, rfl⟩ := zB.1 hx
       exact .v _ _ (hr j v y hv hy)) (off := f.offset) (d := .v z) (by rw [mkOf_cut_map, hz]; rfl)
      exact ⟨r, h1, h2.of_v⟩
     obtain ⟨ra, e1, e2⟩ := hpart vs xs a hv ha
     obtain ⟨rc, e3, e4⟩ := hpart us ys c hu hc
     have e5 := ih f.type a c p ra rc hp e2 e4
     have e6 := eqFs_sound hT n m ih vs us xs ys hv hu fs q (fun g hg => hn g (zF _ hg)) hq
     unfold Op.eqFields
     rw [if_pos (hn f zH)]
     simp only [Sem.run_bind, e1, e3, e5, Result.andThen_ok, Sem.run_ite, Sem.run_pure]
     cases p
     ·simp
     ·simp [e6]
    ·cases h
   ·cases h
theorem eqV_sound {P : Program} {T : Nat → Option TI} (hT : ∀ t i, T t = some i → tiOf P t = some i) {S : Nat → Nat → Prop} {w : World} : ∀ (n m : Nat), n ≤ m → ∀ (t : Nat) (x y : V) (b : Bool) (v u : Value),
  eqV T n t x y = some b → RelV S w v x → RelV S w u y → (Op.equalIn m t v u).run P w = .ok b w
 | 0, m, _, t, x, y, b, v, u, h, _, _ => by simp [eqV] at h
 | n + 1, m, hm, t, x, y, b, v, u, h, hv, hu => by
  obtain ⟨m, rfl⟩ : ∃ m', m = m' + 1 := ⟨m - 1, om⟩
  simp only [eqV] at h
  split at h
  ·cases h
  ·rename_i i hi
   obtain ⟨info, desc, z, g1, g2, g3, g4, g5, g6, g7, g8, g9⟩ := tiOf_spec (hT _ _ hi)
   split at h
   ·rename_i a c hk
    rw [hk] at g5
    have := tkOf_bool g5
    subst this
    cases hv; cases hu; cases h
    exact run_equalIn_bool w m t a c g2
   ·rename_i k0 k a k' c hk
    rw [hk] at g5
    have := tkOf_int g5
    subst this
    cases hv; cases hu
    split at h
    ·rename_i e
     subst e
     cases h
     exact run_equalIn_int w m t k _ a c g2
    ·cases h
   ·rename_i a c hk
    rw [hk] at g5
    have := tkOf_str g5
    subst this
    cases hv; cases hu; cases h
    exact run_equalIn_string w m t a c g2
   ·rename_i fs xs ys hk
    rw [hk] at g5
    obtain ⟨fields, rfl, rfl, hnames⟩ := tkOf_struct g5
    split at h
    ·rename_i hok
     obtain ⟨q1, q2⟩ := g9 hok
     have hf : P.fieldsOf t = fields := by simp [Program.fieldsOf, g2]
     cases hv with
     | agg vs _ hl hr =>
     cases hu with
     | agg us _ hl' hr' =>
     rw [run_equalIn_struct w m t vs us (by rw [hf]; exact g2) q2, hf]
     exact eqFs_sound hT n m (fun t x y b v u => eqV_sound hT n m om t x y b v u) vs us xs ys (.agg vs xs hl hr) (.agg us ys hl' hr') fields.toList b hnames h
    ·cases h
   ·cases h
variable {b : Bool} {u v : Value}
theorem run_eq_of {P : Program} {w : World} {t : Nat} (h : (Op.equal t v u).run P w = .ok b w)
  (hne : ∀ op : BinOp, binOp op t v u = match op with
   | .eql => do pure (.bool (← Op.equal t v u))
   | .neq => do pure (.bool (!(← Op.equal t v u)))
   | op => binOp op t v u) (ox oy : Operand) (hg : ∀ op, (eqGuard op t ox oy v u).run P w = .ok () w) :
  ((do eqGuard .eql t ox oy v u; binOp .eql t v u : Sem Value).run P w = .ok (.bool b) w) ∧ ((do eqGuard .neq t ox oy v u; binOp .neq t v u : Sem Value).run P w = .ok (.bool (!b)) w) := by
 constructor
 ·rw [hne .eql]
  simp only [Sem.run_bind, hg, Result.andThen_ok, h, Sem.run_pure]
 ·rw [hne .neq]
  simp only [Sem.run_bind, hg, Result.andThen_ok, h, Sem.run_pure]
section
variable {P : Program} {w : World} {t : Nat}
theorem eqIn_slice (d e : Nat) (g : P.underlying t = some (.slice e)) (base : Option Addr) (n c : Nat) : (Op.equalIn (d + 1) t (.slice base n c) (.slice none 0 0)).run P w = .ok base.isNone w := by
 cases base <;> simp [Op.equalIn, run_underlying g]
theorem eqIn_pointer (d e : Nat) (g : P.underlying t = some (.pointer e)) (a : Option Addr) : (Op.equalIn (d + 1) t (.pointer a) (.pointer none)).run P w = .ok a.isNone w := by
 cases a <;> simp [Op.equalIn, run_underlying g]
theorem eqIn_map (d k e : Nat) (g : P.underlying t = some (.map k e)) (a : Option Nat) : (Op.equalIn (d + 1) t (.map a) (.map none)).run P w = .ok a.isNone w := by
 cases a <;> simp [Op.equalIn, run_underlying g]
theorem eqIn_nilFunc (d : Nat) {a b : Array TypeId} {c : Bool} (g : P.underlying t = some (.func a b c)) : (Op.equalIn (d + 1) t .nilFunc .nilFunc).run P w = .ok true w := by
 simp [Op.equalIn, run_underlying g]
theorem eqIn_func (d : Nat) {a b : Array TypeId} {c : Bool} (g : P.underlying t = some (.func a b c)) (f : Fn) (x y : Array Value) : (Op.equalIn (d + 1) t (.func f x y) .nilFunc).run P w = .ok false w := by
 simp [Op.equalIn, run_underlying g]
theorem intOp_sound {S : Nat → Nat → Prop} {op : BinOp} {k : IntKind} {a b : Int} {r : V} (h : intOp op k a b = some r) : ∃ v, (binOp op t (.int k a) (.int k b)).run P w = .ok v w ∧ RelV S w v r := by
 cases op <;> simp only [intOp] at h <;> (try (cases h; done))
 case quo =>
  split at h
  ·cases h
  ·rename_i hb
   cases h
   refine ⟨_, ?_, .int _ _⟩
   rw [binOp_quo]; unfold Op.intDiv; rw [if_neg hb]; rfl
 case rem =>
  split at h
  ·cases h
  ·rename_i hb
   cases h
   refine ⟨_, ?_, .int _ _⟩
   rw [binOp_rem]; unfold Op.intDiv; rw [if_neg hb]; rfl
 all_goals cases h
 case add => exact ⟨_, by rw [binOp_add]; rfl, .int _ _⟩
 case sub => exact ⟨_, by rw [binOp_sub]; rfl, .int _ _⟩
 case mul => exact ⟨_, by rw [binOp_mul]; rfl, .int _ _⟩
 case and => exact ⟨_, by rw [binOp_and]; rfl, .int _ _⟩
 case or => exact ⟨_, by rw [binOp_or]; rfl, .int _ _⟩
 case xor => exact ⟨_, by rw [binOp_xor]; rfl, .int _ _⟩
 case andNot => exact ⟨_, by rw [binOp_andNot]; rfl, .int _ _⟩
 case eql => exact ⟨_, by rw [binOp_eql]; rfl, .bool _⟩
 case neq => exact ⟨_, by rw [binOp_neq]; rfl, .bool _⟩
 case lss => exact ⟨_, by rw [binOp_lss]; rfl, .bool _⟩
 case leq => exact ⟨_, by rw [binOp_leq]; rfl, .bool _⟩
 case gtr => exact ⟨_, by rw [binOp_gtr]; rfl, .bool _⟩
 case geq => exact ⟨_, by rw [binOp_geq]; rfl, .bool _⟩
theorem shiftOp_sound {S : Nat → Nat → Prop} {op : BinOp} {k k' : IntKind} {a b : Int} {r : V} (h : shiftOp op k a b = some r) : ∃ v, (Op.shift op k a k' b).run P w = .ok v w ∧ RelV S w v r := by
 unfold shiftOp at h
 split at h
 ·cases h
 ·rename_i hb
  split at h
  ·cases h
   refine ⟨_, ?_, .int _ _⟩
   unfold Op.shift; rw [if_neg hb]; rfl
  ·cases h
   refine ⟨_, ?_, .int _ _⟩
   unfold Op.shift; rw [if_neg hb]; rfl
  ·cases h
theorem strOp_sound {S : Nat → Nat → Prop} {op : BinOp} {a b : ByteArray} {r : V} (h : strOp op a b = some r) : ∃ v, (Op.stringOp op a b).run P w = .ok v w ∧ RelV S w v r := by
 cases op <;> simp only [strOp] at h <;> (try (cases h; done))
 case add =>
  split at h
  ·rename_i hm
   cases h
   refine ⟨_, ?_, .str _⟩
   unfold Op.stringOp
   simp only
   rw [if_neg (by rw [IntKind.max_i64]; unfold maxLen at hm; omega)]
   rfl
  ·cases h
 all_goals
  cases h
  exact ⟨_, rfl, .bool _⟩
end
variable {S : Nat → Nat → Prop} {x y : D} {β : Blocks}
theorem eqD_sound {P : Program} {T : Nat → Option TI} (hT : ∀ t i, T t = some i → tiOf P t = some i) {w : World} {t : Nat}
  (hint : ∀ k a k' c, ¬ (x = .v (.int k a) ∧ y = .v (.int k' c))) (hstr : ∀ a c, ¬ (x = .v (.str a) ∧ y = .v (.str c)))
  (h : eqD T t x y = some b) (hv : RelD S β w v x) (hu : RelD S β w u y) (ox oy : Operand) :
  ((do eqGuard .eql t ox oy v u; binOp .eql t v u : Sem Value).run P w = .ok (.bool b) w) ∧ ((do eqGuard .neq t ox oy v u; binOp .neq t v u : Sem Value).run P w = .ok (.bool (!b)) w) := by
 unfold eqD at h
 split at h
 ·cases h
 ·rename_i i hi
  obtain ⟨info, desc, z, g1, g2, g3, g4, g5, g6, g7, g8, g9⟩ := tiOf_spec (hT _ _ hi)
  split at h
  ·-- slices
   rename_i e hk
   rw [hk] at g5
   have := tkOf_slice g5
   subst this
   split at h
   ·have hu' : u = .slice none 0 0 := by
     have huu := hu.of_v
     generalize hes : V.sl .nil [] = vsl at huu
     cases huu <;> try (cases hes; done)
     ·rfl
     ·rename_i hn _ _; cases hes; exact absurd rfl hn
     ·rename_i hn _ _ _ _ _ _; cases hes; exact absurd rfl hn
    subst hu'
    have hv' : ∃ base n c, v = .slice base n c ∧ b = base.isNone := by
     unfold isNilS at h
     split at h
     ·rename_i fl es
      have hvv := hv.of_v
      generalize hes : V.sl fl es = vsl at hvv
      cases hvv <;> try (cases hes; done)
      ·rename_i hn; cases hes
       refine ⟨_, _, _, rfl, ?_⟩
       simp only at h
       cases b with
       | true => rfl
       | false => exact absurd h hn
      ·rename_i hn _ _; cases hes
       refine ⟨_, _, _, rfl, ?_⟩
       simp only at h
       cases b with
       | false => rfl
       | true => exact absurd h hn
      ·rename_i hlen hn _ _ _ _ _ _; cases hes
       refine ⟨_, _, _, rfl, ?_⟩
       cases es with
       | nil => simp only at h; cases b with
        | false => rfl
        | true => exact absurd h hn
       | cons _ _ => cases h; rfl
     ·cases h; cases hv; exact ⟨_, _, _, rfl, rfl⟩
     ·cases h
    obtain ⟨base, n, c, rfl, rfl⟩ := hv'
    refine run_eq_of ?_ (fun op => by cases op <;> simp [binOp]) ox oy (fun op => by simp [eqGuard_at_slice])
    exact eqIn_slice 9999 e g2 base n c
   ·cases h
  ·-- pointers
   rename_i e hk
   rw [hk] at g5
   have := tkOf_ptr g5
   subst this
   split at h
   ·cases hu.of_v
    have hv' : ∃ a, v = .pointer a ∧ b = a.isNone := by
     unfold isNilP at h
     split at h
     ·cases h; cases hv.of_v; exact ⟨_, rfl, rfl⟩
     ·cases h; cases hv; exact ⟨_, rfl, rfl⟩
     ·cases h; cases hv; exact ⟨_, rfl, rfl⟩
     ·cases h; cases hv; exact ⟨_, rfl, rfl⟩
     ·cases h; cases hv.of_v; exact ⟨_, rfl, rfl⟩
     ·cases h
    obtain ⟨a, rfl, rfl⟩ := hv'
    refine run_eq_of ?_ (fun op => by cases op <;> simp [binOp]) ox oy (fun op => by simp [eqGuard_at_pointer])
    exact eqIn_pointer 9999 e g2 a
   ·cases h
  ·-- maps
   rename_i k e hk
   rw [hk] at g5
   have := tkOf_map g5
   subst this
   split at h
   ·cases hu.of_v
    unfold isNilM at h
    split at h
    ·cases h; cases hv.of_v
     refine run_eq_of ?_ (fun op => by cases op <;> simp [binOp]) ox oy (fun op => by simp [eqGuard_at_map])
     exact eqIn_map 9999 k e g2 none
    ·cases h; cases hv.of_v
     refine run_eq_of ?_ (fun op => by cases op <;> simp [binOp]) ox oy (fun op => by simp [eqGuard_at_map])
     exact eqIn_map 9999 k e g2 (some _)
    ·cases h; cases hv
     refine run_eq_of ?_ (fun op => by cases op <;> simp [binOp]) ox oy (fun op => by simp [eqGuard_at_map])
     exact eqIn_map 9999 k e g2 (some _)
    ·cases h
   ·cases h
  ·-- functions
   rename_i hk
   rw [hk] at g5
   obtain ⟨a1, a2, a3, rfl⟩ := tkOf_func g5
   split at h
   ·cases hu.of_v
    unfold isNilF at h
    split at h
    ·cases h; cases hv.of_v
     refine run_eq_of ?_ (fun op => by cases op <;> simp [binOp]) ox oy (fun op => by simp [eqGuard_at_nilFunc])
     exact eqIn_nilFunc 9999 g2
    ·cases h; cases hv.of_v
     refine run_eq_of ?_ (fun op => by cases op <;> simp [binOp]) ox oy (fun op => by simp [eqGuard_at_func])
     exact eqIn_func 9999 g2 _ _ _
    ·cases h; cases hv
     refine run_eq_of ?_ (fun op => by cases op <;> simp [binOp]) ox oy (fun op => by simp [eqGuard_at_func])
     exact eqIn_func 9999 g2 _ _ _
    ·cases h
   ·cases h
  ·split at h
   ·rename_i x y
    have he := eqV_sound (S := S) (w := w) hT 8 10000 om t x y b v u h hv.of_v hu.of_v
    have he' : (Op.equal t v u).run P w = .ok b w := he
    simp only [eqV, hi] at h
    split at h
    ·cases hv.of_v; cases hu.of_v
     exact run_eq_of he' (fun op => by cases op <;> simp [binOp]) ox oy (fun op => by simp [eqGuard_at_bool])
    ·rename_i k a k' c _; exact absurd ⟨rfl, rfl⟩ (hint k a k' c)
    ·rename_i a c _; exact absurd ⟨rfl, rfl⟩ (hstr a c)
    ·split at h
     ·rename_i hok
      cases hv.of_v; cases hu.of_v
      exact run_eq_of he' (fun op => by cases op <;> simp [binOp]) ox oy (fun op => run_eqGuard_agg w op t ox oy _ _ (g9 hok).1)
     ·cases h
    ·cases h
   ·cases h
variable {d : D}
theorem binD_sound {P : Program} {T : Nat → Option TI} (hT : ∀ t i, T t = some i → tiOf P t = some i) {w : World} {op : BinOp} {t : Nat}
  (h : binD T op t x y = some d) (hv : RelD S β w v x) (hu : RelD S β w u y) (ox oy : Operand) :
  ∃ r, ((do eqGuard op t ox oy v u; binOp op t v u : Sem Value).run P w = .ok r w) ∧ RelD S β w r d := by
 unfold binD at h
 split at h
 ·rename_i k a k' b
  cases hv.of_v; cases hu.of_v
  simp only [eqGuard_at_int, pure_bind]
  split at h
  ·obtain ⟨r, hr, rfl⟩ := zB.1 h
   obtain ⟨v, h1, h2⟩ := shiftOp_sound (P := P) (S := S) (w := w) (k' := k') hr
   exact ⟨v, by rw [binOp_shl]; exact h1, .v _ _ h2⟩
  ·obtain ⟨r, hr, rfl⟩ := zB.1 h
   obtain ⟨v, h1, h2⟩ := shiftOp_sound (P := P) (S := S) (w := w) (k' := k') hr
   exact ⟨v, by rw [binOp_shr]; exact h1, .v _ _ h2⟩
  ·split at h
   ·rename_i e
    subst e
    obtain ⟨r, hr, rfl⟩ := zB.1 h
    obtain ⟨v, h1, h2⟩ := intOp_sound (P := P) (S := S) (w := w) (t := t) hr
    exact ⟨v, h1, .v _ _ h2⟩
   ·cases h
 ·rename_i a b
  cases hv.of_v; cases hu.of_v
  obtain ⟨r, hr, rfl⟩ := zB.1 h
  obtain ⟨v, h1, h2⟩ := strOp_sound (P := P) (S := S) (w := w) hr
  refine ⟨v, ?_, .v _ _ h2⟩
  simp only [eqGuard_at_string, pure_bind]
  cases op <;> first | exact h1 | (simp only [strOp] at hr; cases hr)
 ·rename_i x y hi hs
  split at h
  ·obtain ⟨b, hb, rfl⟩ := zB.1 h
   exact ⟨_, (eqD_sound hT (fun k a k' c hh => hi k a k' c hh.1 hh.2) (fun a c hh => hs a c hh.1 hh.2) hb hv hu ox oy).1, .v _ _ (.bool _)⟩
  ·obtain ⟨b, hb, rfl⟩ := zB.1 h
   exact ⟨_, (eqD_sound hT (fun k a k' c hh => hi k a k' c hh.1 hh.2) (fun a c hh => hs a c hh.1 hh.2) hb hv hu ox oy).2, .v _ _ (.bool _)⟩
  ·cases h
theorem unD_sound {P : Program} {w : World} {op : UnOp} (h : unD op x = some d) (hv : RelD S β w v x) : ∃ r, (Op.unary op v).run P w = .ok r w ∧ RelD S β w r d := by
 unfold unD at h
 split at h
 ·cases h; cases hv.of_v; exact ⟨_, rfl, .v _ _ (.bool _)⟩
 ·cases h; cases hv.of_v; exact ⟨_, rfl, .v _ _ (.int _ _)⟩
 ·cases h
theorem bytesOfV_ints : ∀ {es : List V} {l : List UInt8}, bytesOfV es = some l → ∃ ns : List Int, es = ns.map (V.int .u8) ∧ ns.foldl (fun r n => r.push (UInt8.ofNat n.toNat)) ByteArray.empty = ⟨l.toArray⟩ := by
 have key : ∀ (es : List V) (l : List UInt8) (r : ByteArray), bytesOfV es = some l → ∃ ns : List Int, es = ns.map (V.int .u8) ∧ ns.foldl (fun r n => r.push (UInt8.ofNat n.toNat)) r = ⟨r.data ++ l.toArray⟩ := by
  intro es
  induction es with
  | nil => intro l r h; cases h; exact ⟨[], rfl, by simp⟩
  | cons x es ih =>
   intro l r h
   simp only [bytesOfV] at h
   split at h
   ·rename_i c cs hc hcs
    cases h
    cases x <;> simp only [byteV] at hc <;> try (cases hc; done)
    rename_i k n
    cases k <;> simp only at hc <;> try (cases hc; done)
    cases hc
    obtain ⟨ns, rfl, h2⟩ := ih cs (r.push (UInt8.ofNat n.toNat)) hcs
    refine ⟨n :: ns, rfl, ?_⟩
    rw [List.foldl_cons, h2]
    congr 1
    apply Array.ext'
    simp [ByteArray.push]
   ·cases h
 intro es l h
 obtain ⟨ns, h1, h2⟩ := key es l ByteArray.empty h
 exact ⟨ns, h1, by rw [h2]; congr 1; simp⟩
theorem convD_sound {P : Program} {T : Nat → Option TI} (hT : ∀ t i, T t = some i → tiOf P t = some i) {w : World} {src dst : Nat}
  (h : convD T src dst x = some d) (hv : RelD S β w v x) : ∃ r, (convert src dst v).run P w = .ok r w ∧ RelD S β w r d := by
 unfold convD at h
 split at h
 ·rename_i si i k n hs hd
  obtain ⟨_, desc0, _, _, g0, _⟩ := tiOf_spec (hT _ _ hs)
  obtain ⟨info, desc, z, g1, g2, g3, g4, g5, g6, g7, g8, g9⟩ := tiOf_spec (hT _ _ hd)
  split at h
  ·rename_i k' hk
   rw [hk] at g5
   have := tkOf_int g5
   subst this
   cases h; cases hv.of_v
   exact ⟨_, by simp [convert, run_underlying g0, run_underlying g2, Conv.intToInt], .v _ _ (.int _ _)⟩
  ·cases h
 ·rename_i si i s hs hd
  obtain ⟨_, desc0, _, _, g0, _⟩ := tiOf_spec (hT _ _ hs)
  obtain ⟨info, desc, z, g1, g2, g3, g4, g5, g6, g7, g8, g9⟩ := tiOf_spec (hT _ _ hd)
  split at h
  ·rename_i hk
   rw [hk] at g5
   have := tkOf_str g5
   subst this
   cases h; cases hv.of_v
   exact ⟨.string s, by cases desc0 <;> simp [convert, run_underlying g0, run_underlying g2], .v _ _ (.str _)⟩
  ·cases h
 ·rename_i si i fl es hs hd
  obtain ⟨_, desc0, _, _, g0, _, _, g05, _⟩ := tiOf_spec (hT _ _ hs)
  obtain ⟨info, desc, z, g1, g2, g3, g4, g5, g6, g7, g8, g9⟩ := tiOf_spec (hT _ _ hd)
  split at h <;> try (cases h; done)
  rename_i e hk0 hk
  split at h <;> try (cases h; done)
  rename_i ei he
  split at h <;> try (cases h; done)
  rename_i hke
  obtain ⟨_, _, _, _, g02, _, _, g025, _⟩ := tiOf_spec (hT _ _ he)
  rw [hk0] at g05
  rw [hk] at g5
  rw [hke] at g025
  have d0 := tkOf_slice g05
  have d1 := tkOf_str g5
  have d2 := tkOf_int g025
  subst d0 d1 d2
  unfold strV at h
  cases hb : bytesOfV es with
  | none => rw [hb] at h; cases h
  | some l =>
   rw [hb] at h
   cases h
   refine ⟨.string ⟨l.toArray⟩, ?_, .v _ _ (.str _)⟩
   have hv' := hv.of_v
   cases hv' with
   | slnil => cases hb; rw [run_convert_bytes_string w src dst e _ _ _ g0 g02 g2]; rfl
   | slemp fl a cap h hf hm =>
    cases hb
    rw [run_convert_bytes_string w src dst e _ _ _ g0 g02 g2, run_bytesToString w a 0 cap [] (by simp [loadCells, loadCellsFrom])]
    rfl
   | sl fl b off cap k n es vals hn h hf hc hm hk hs' hr =>
    subst hn
    obtain ⟨ns, hns, hall⟩ := bytesOfV_ints hb
    rw [run_convert_bytes_string w src dst e _ _ _ g0 g02 g2, run_bytesToString w ⟨b, off, none⟩ es.length cap ns ?_, hall]
    have hcell : ∀ (j : Nat) (v : Value), (ns.map (Value.int .u8))[j]? = some v → w.cell? ((⟨b, off, none⟩ : Addr).add j) = some v := by
     intro j v hj
     rw [zG] at hj
     obtain ⟨m, hm', rfl⟩ := zB.1 hj
     have he : es[j]? = some (.int .u8 m) := by rw [hns, zG, hm']; rfl
     have hk1 : k = 1 := by rw [← (hk j _ he).2]; rfl
     subst hk1
     have h1 := (hs' j 0 (yE he) om).2
     have h2 := hr j 0 _ _ he rfl
     simp only [Nat.mul_one, Nat.add_zero] at h1 h2
     rw [Addr.add_lit, h1]
     generalize vals j = u at h2
     cases h2
     rfl
    have hlen : (ns.map (Value.int .u8)).length = es.length := by rw [hns]; simp
    have := run_loadCells_list (P := P) w ⟨b, off, none⟩ (ns.map (Value.int .u8)) hcell
    rw [hlen] at this
    simpa using this
 ·cases h
open Go.ChangeMaps (setBlock)
variable {DR : Prop}
variable {P : Program} {S : Nat → Nat → Prop} {k : V} {key : Value} {kt : Nat} {w : World}
theorem key_kinds {T : Nat → Option TI} (hT : ∀ t i, T t = some i → tiOf P t = some i) (h : keyOk1 T kt k = true) (hk : RelV S w key k) :
  ∃ i d, T kt = some i ∧ P.underlying kt = some d ∧ ((∃ q n, k = .int q n ∧ key = .int q n ∧ i.kind = .int q ∧ d = .int q) ∨ (∃ s, k = .str s ∧ key = .string s ∧ i.kind = .str ∧ d = .string) ∨ (∃ x, k = .bool x ∧ key = .bool x ∧ i.kind = .bool ∧ d = .bool)) := by
 unfold keyOk1 at h
 split at h
 ·rename_i i hi
  obtain ⟨info, desc, z, g1, g2, g3, g4, g5, g6, g7, g8, _⟩ := tiOf_spec (hT _ _ hi)
  refine ⟨i, desc, hi, g2, ?_⟩
  split at h
  ·rename_i q q' n hkd
   rw [hkd] at g5
   have h' : q' = q := by simpa using h
   subst h'
   cases hk
   exact .inl ⟨q', n, rfl, rfl, hkd, tkOf_int g5⟩
  ·rename_i s hkd
   rw [hkd] at g5
   cases hk
   exact .inr (.inl ⟨s, rfl, rfl, hkd, tkOf_str g5⟩)
  ·rename_i x hkd
   rw [hkd] at g5
   cases hk
   exact .inr (.inr ⟨x, rfl, rfl, hkd, tkOf_bool g5⟩)
  ·cases h
 ·cases h
variable {v : Value}
theorem same_sound {T : Nat → Option TI} (hT : ∀ t i, T t = some i → tiOf P t = some i) {x : V} (h : keyOk1 T kt k = true) (hk : RelV S w key k) (hx : RelV S w v x) {b : Bool}
  (he : eqV T 8 kt k x = some b) {d : TypeDesc} (hd : P.underlying kt = some d) : Instr.sameNow d key v = some b ∧ (b = true → Instr.sameBits 10000 v key = true) := by
 obtain ⟨i, d', hi, hd', hc⟩ := key_kinds hT h hk
 rw [hd] at hd'
 cases hd'
 rcases hc with ⟨q, n, rfl, rfl, hki, rfl⟩ | ⟨s, rfl, rfl, hki, rfl⟩ | ⟨y, rfl, rfl, hki, rfl⟩
 ·simp only [eqV, hi, hki] at he
  cases x <;> simp only [] at he <;> first | (cases he; done) | skip
  cases hx
  split at he
  ·rename_i hq
   subst hq
   cases he
   refine ⟨by simp [Instr.sameNow], fun hb => ?_⟩
   simp only [beq_iff_eq] at hb
   subst hb
   simp [Instr.sameBits]
  ·cases he
 ·simp only [eqV, hi, hki] at he
  cases x <;> simp only [] at he <;> first | (cases he; done) | skip
  cases hx
  cases he
  refine ⟨by simp only [Instr.sameNow, beq_toListBytes], fun hb => ?_⟩
  rw [← beq_toListBytes, MapKept.bytes_beq] at hb
  subst hb
  simp [Instr.sameBits, MapKept.bytes_beq]
 ·simp only [eqV, hi, hki] at he
  cases x <;> simp only [] at he <;> first | (cases he; done) | skip
  cases hx
  cases he
  refine ⟨by simp only [Instr.sameNow], fun hb => ?_⟩
  simp only [beq_iff_eq] at hb
  subst hb
  simp [Instr.sameBits]
theorem findNow_sound {P : Program} {T : Nat → Option TI} (hT : ∀ t i, T t = some i → tiOf P t = some i) {kt : Nat} {k : V} (h : keyOk1 T kt k = true) {S : Nat → Nat → Prop} {w : World} {key : Value} (hk : RelV S w key k) {d : TypeDesc} (hd : P.underlying kt = some d) :
  ∀ (es : List MapEntry) (ks : List V) (i : Nat) (r : Option Nat), es.length = ks.length → (∀ (j : Nat) e x, es[j]? = some e → ks[j]? = some x → RelV S w e.key x) → keyFind T kt k ks i = some r →
   (r = none ∧ Instr.findNow d key es i = some none) ∨ ∃ j e, r = some (i + j) ∧ es[j]? = some e ∧ Instr.findNow d key es i = some (some (i + j, e.val)) ∧ Instr.sameBits 10000 e.key key = true
 | [], [], i, r, _, _, hf => by
  simp only [keyFind, Option.some.injEq] at hf
  subst hf
  exact .inl ⟨rfl, rfl⟩
 | [], _ :: _, _, _, hl, _, _ => by simp at hl
 | _ :: _, [], _, _, hl, _, _ => by simp at hl
 | e :: es, x :: ks, i, r, hl, hr, hf => by
  simp only [keyFind] at hf
  have hx := hr 0 e x rfl rfl
  split at hf
  ·rename_i he
   split at hf
   case isFalse => cases hf
   cases hf
   obtain ⟨h1, h2⟩ := same_sound hT h hk hx he hd
   exact .inr ⟨0, e, rfl, rfl, by simp [Instr.findNow, h1], h2 rfl⟩
  ·rename_i he
   obtain ⟨h1, _⟩ := same_sound hT h hk hx he hd
   rcases findNow_sound hT h hk hd es ks (i + 1) r (by simpa using hl) (fun j e x h1 h2 => hr (j + 1) e x (by simpa using h1) (by simpa using h2)) hf with ⟨g1, g2⟩ | ⟨j, e', g1, g2, g3, g4⟩
   ·exact .inl ⟨g1, by simp [Instr.findNow, h1, g2]⟩
   ·exact .inr ⟨j + 1, e', by rw [g1]; congr 1; omega, by simpa using g2, by simp only [Instr.findNow, h1, g3]; congr 2; simp; omega, g4⟩
  ·cases hf
variable {es : Array MapEntry} {ks : List V} {r : Option Nat}
theorem findKey_sound1 {T : Nat → Option TI} (hT : ∀ t i, T t = some i → tiOf P t = some i) (h : keyOk1 T kt k = true) (hk : RelV S w key k)
  (hl : es.size = ks.length) (hr : ∀ (j : Nat) e x, es[j]? = some e → ks[j]? = some x → RelV S w e.key x) (hf : keyFind T kt k ks 0 = some r) :
  (∀ em, (Instr.checkKey em 10000 kt key).run P w = .ok () w) ∧
   ((r = none ∧ (Instr.findKey kt key es.toList).run P w = .ok none w) ∨ ∃ j e, r = some j ∧ es[j]? = some e ∧ (Instr.findKey kt key es.toList).run P w = .ok (some (j, e.val)) w ∧ (Instr.keyThatStays e.key key).run P w = .ok key w) := by
 obtain ⟨i, d, hi, hd, hc⟩ := key_kinds hT h hk
 refine ⟨fun em => ?_, ?_⟩
 ·have : (10000 : Nat) = 9999 + 1 := rfl
  rw [this]
  unfold Instr.checkKey
  rcases hc with ⟨q, n, rfl, rfl, hki, rfl⟩ | ⟨s, rfl, rfl, hki, rfl⟩ | ⟨y, rfl, rfl, hki, rfl⟩ <;>
   simp only [Sem.run_bind, run_underlying hd, Result.andThen_ok, Sem.run_pure]
 ·rcases findNow_sound hT h hk hd es.toList ks 0 r (by simpa using hl) (fun j e x h1 h2 => hr j e x (by simpa using h1) h2) hf with ⟨g1, g2⟩ | ⟨j, e, g1, g2, g3, g4⟩
  ·refine .inl ⟨g1, ?_⟩
   unfold Instr.findKey
   simp only [Sem.run_bind, run_underlying hd, Result.andThen_ok, g2, Sem.run_pure]
  ·refine .inr ⟨j, e, by simpa using g1, by simpa using g2, ?_, ?_⟩
   ·unfold Instr.findKey
    simp only [Sem.run_bind, run_underlying hd, Result.andThen_ok, g3, Sem.run_pure, Nat.zero_add]
   ·unfold Instr.keyThatStays
    simp only [g4, if_true, Sem.run_pure]
theorem checkKey2 {T : Nat → Option TI} (hT : ∀ t i, T t = some i → tiOf P t = some i) (h : keyOk2 T kt k = true) (hk : RelV S w key k) (em : Bool) : (Instr.checkKey em 10000 kt key).run P w = .ok () w := by
 unfold keyOk2 at h
 split at h
 case h_2 => cases h
 rename_i i hi
 split at h
 case h_2 => cases h
 rename_i fs cs hkd
 rw [Bool.and_eq_true] at h
 obtain ⟨info, desc, z, g1, g2, g3, g4, g5, _⟩ := tiOf_spec (hT _ _ hi)
 rw [hkd] at g5
 obtain ⟨fields, rfl, rfl, hn⟩ := tkOf_struct g5
 cases hk with
 | agg vs _ hl hr =>
 have hall : ∀ f ∈ fields.toList, ∃ v, (part f.type vs f.offset).run P w = .ok v w ∧ ∀ n, (Instr.checkKey em (n + 1) f.type v).run P w = .ok () w := by
  intro f hf
  have hff := zZ.1 h.1 (f.offset, f.type) (List.mem_map.2 ⟨f, hf, rfl⟩)
  rw [Bool.and_eq_true, decide_eq_true_eq] at hff
  obtain ⟨hf1, hf2⟩ := hff
  split at hf1
  case h_2 => cases hf1
  rename_i j hj
  obtain ⟨_, desc', _, _, q2, _, _, q5, q6, _⟩ := tiOf_spec (hT _ _ hj)
  obtain ⟨q, hq⟩ : ∃ q, j.kind = .int q := by
   cases hjk : j.kind <;> rw [hjk] at hf1 <;> first | exact ⟨_, rfl⟩ | cases hf1
  rw [hq] at q5
  have := tkOf_int q5
  subst this
  have hlt : f.offset < vs.size := by rw [hl]; exact hf2
  refine ⟨vs[f.offset], ?_, fun n => ?_⟩
  ·unfold part
   simp only [Sem.run_bind, run_isAgg q2 (by rw [q5]; rfl), Result.andThen_ok, show (tkOf (TypeDesc.int q)).isAgg = false from rfl, Bool.false_eq_true, if_false, zD hlt, Sem.run_pure]
  ·unfold Instr.checkKey
   simp only [Sem.run_bind, run_underlying q2, Result.andThen_ok, Sem.run_pure]
 show (Instr.checkKey em (9998 + 1 + 1) kt (.agg vs)).run P w = .ok () w
 unfold Instr.checkKey
 simp only [Sem.run_bind, run_underlying g2, Result.andThen_ok]
 have key : ∀ l : List Field, (∀ f ∈ l, f ∈ fields.toList) → (forIn l PUnit.unit fun f _ => (do
   if f.name ≠ "_" then Instr.checkKey em (9998 + 1) f.type (← part f.type vs f.offset)
   pure (ForInStep.yield PUnit.unit) : Sem (ForInStep PUnit))).run P w = .ok PUnit.unit w := by
  intro l
  induction l with
  | nil => intro _; rfl
  | cons f r ih =>
   intro hl
   obtain ⟨v, h1, h2⟩ := hall f (hl f zH)
   rw [List.forIn_cons]
   have := ih fun g hg => hl g (zF _ hg)
   simp only [Sem.run_bind, if_pos (hn f (hl f zH)), h1, h2, Result.andThen_ok, Sem.run_pure, this]
 have := key fields.toList (fun f hf => hf)
 rw [← Array.forIn_toList]
 simp at this ⊢
 rw [this]
 rfl
theorem intsB_at : ∀ {cs ys : List V}, intsB cs ys = true → cs = ys ∧ ∀ x ∈ cs, ∃ q n, x = .int q n
 | [], [], _ => ⟨rfl, fun x hx => by cases hx⟩
 | [], _ :: _, h => by cases h
 | x :: _, [], h => by cases x <;> cases h
 | x :: r, y :: s, h => by
  cases x <;> cases y <;> first | (cases h; done) | skip
  rename_i q n q' n'
  have h : (decide (q = q' ∧ n = n') && intsB r s) = true := h
  rw [Bool.and_eq_true, decide_eq_true_eq] at h
  obtain ⟨⟨rfl, rfl⟩, h2⟩ := h
  obtain ⟨rfl, h3⟩ := intsB_at h2
  refine ⟨rfl, fun x hx => ?_⟩
  rcases List.mem_cons.1 hx with rfl | hx
  ·exact ⟨_, _, rfl⟩
  ·exact h3 x hx
theorem same2 {cs : List V} {x : V} (h : keyTwin (.agg cs) x = true) (hk : RelV S w key (.agg cs)) (hx : RelV S w v x) : Instr.sameBits 10000 v key = true := by
 obtain ⟨ys, rfl⟩ : ∃ ys, x = .agg ys := by cases x <;> first | exact ⟨_, rfl⟩ | cases h
 obtain ⟨rfl, hi⟩ := intsB_at h
 cases hk with
 | agg vs _ hl hr =>
 cases hx with
 | agg us _ hl' hr' =>
 have e : us = vs := by
  apply Array.ext
  ·omega
  ·intro i h1 h2
   have h3 : i < cs.length := by omega
   obtain ⟨q, n, hq⟩ := hi cs[i] (List.getElem_mem h3)
   have a1 := hr i vs[i] cs[i] (zD h2) (zA h3)
   have a2 := hr' i us[i] cs[i] (zD h1) (zA h3)
   rw [hq] at a1 a2
   generalize us[i] = u at a2
   generalize vs[i] = v at a1
   cases a1
   cases a2
   rfl
 subst e
 show (us.size == us.size && (us.toList.zip us.toList).all fun p => Instr.sameBits 9999 p.1 p.2) = true
 rw [beq_self_eq_true, Bool.true_and, zZ]
 intro p hp
 obtain ⟨i, hpi⟩ := List.getElem?_of_mem hp
 rw [List.getElem?_zip_eq_some] at hpi
 have h12 : p.1 = p.2 := zC (hpi.1.symm.trans hpi.2)
 have hlt : i < us.size := by
  have := yE hpi.1
  rw [Array.length_toList] at this
  exact this
 obtain ⟨q, n, hq⟩ := hi cs[i] (List.getElem_mem om)
 have a1 := hr i us[i] cs[i] (zD hlt) (zA om)
 have hp1 : p.1 = us[i] := by
  have := hpi.1
  rw [zA (by rw [Array.length_toList]; exact hlt)] at this
  rw [← zC this]; simp
 rw [← h12, hp1]
 rw [hq] at a1
 generalize us[i] = u at a1
 cases a1
 simp [Instr.sameBits]
theorem findKey_sound {T : Nat → Option TI} (hT : ∀ t i, T t = some i → tiOf P t = some i) (h : keyOk T kt k = true) (hk : RelV S w key k)
  (hl : es.size = ks.length) (hr : ∀ (j : Nat) e x, es[j]? = some e → ks[j]? = some x → RelV S w e.key x) (hf : keyFind T kt k ks 0 = some r) :
  (∀ em, (Instr.checkKey em 10000 kt key).run P w = .ok () w) ∧
   ((r = none ∧ (Instr.findKey kt key es.toList).run P w = .ok none w) ∨ ∃ j e, r = some j ∧ es[j]? = some e ∧ (Instr.findKey kt key es.toList).run P w = .ok (some (j, e.val)) w ∧ (Instr.keyThatStays e.key key).run P w = .ok key w) := by
 unfold keyOk at h
 rw [Bool.or_eq_true] at h
 rcases h with h | h
 ·exact findKey_sound1 hT h hk hl hr hf
 refine ⟨checkKey2 hT h hk, ?_⟩
 unfold keyOk2 at h
 split at h
 case h_2 => cases h
 rename_i i hi
 split at h
 case h_2 => cases h
 rename_i fs cs hkd
 rw [Bool.and_eq_true] at h
 obtain ⟨info, desc, z, g1, g2, g3, g4, g5, _⟩ := tiOf_spec (hT _ _ hi)
 rw [hkd] at g5
 obtain ⟨fields, rfl, rfl, hn⟩ := tkOf_struct g5
 have ask : ∀ (es : List MapEntry) (ks : List V) (i0 : Nat) (r : Option Nat), es.length = ks.length → (∀ (j : Nat) e x, es[j]? = some e → ks[j]? = some x → RelV S w e.key x) → keyFind T kt (.agg cs) ks i0 = some r →
   (r = none ∧ (Instr.findAsking kt key es i0).run P w = .ok none w) ∨ ∃ j e, r = some (i0 + j) ∧ es[j]? = some e ∧ (Instr.findAsking kt key es i0).run P w = .ok (some (i0 + j, e.val)) w ∧ ∃ x, ks[j]? = some x ∧ keyTwin (.agg cs) x = true := by
  intro es
  induction es with
  | nil =>
   intro ks i0 r hl _ hf
   cases ks with
   | cons => simp at hl
   | nil =>
    simp only [keyFind, Option.some.injEq] at hf
    exact .inl ⟨hf.symm, rfl⟩
  | cons e es ih =>
   intro ks i0 r hl hr hf
   cases ks with
   | nil => simp at hl
   | cons x ks =>
    have he := hr 0 e x rfl rfl
    simp only [keyFind] at hf
    split at hf
    ·rename_i hq
     split at hf
     case isFalse => cases hf
     rename_i htw
     have heq := eqV_sound hT 8 Op.maxDepth (by decide) kt (.agg cs) x true key e.key hq hk he
     cases hf
     refine .inr ⟨0, e, rfl, rfl, ?_, x, rfl, htw⟩
     unfold Instr.findAsking
     have heq : (Op.equal kt key e.key).run P w = .ok true w := heq
     simp only [Sem.run_bind, heq, Result.andThen_ok, if_true, Sem.run_pure, Nat.add_zero]
    ·rename_i hq
     have heq := eqV_sound hT 8 Op.maxDepth (by decide) kt (.agg cs) x false key e.key hq hk he
     have heq : (Op.equal kt key e.key).run P w = .ok false w := heq
     have hstep : (Instr.findAsking kt key (e :: es) i0).run P w = (Instr.findAsking kt key es (i0 + 1)).run P w := by
      rw [Instr.findAsking]
      simp only [Sem.run_bind, heq, Result.andThen_ok, Bool.false_eq_true, if_false]
     rw [hstep]
     rcases ih ks (i0 + 1) r (by simpa using hl) (fun j e x h1 h2 => hr (j + 1) e x (by simpa using h1) (by simpa using h2)) hf with g | ⟨j, e', q1, q2, q3, x', q4, q5⟩
     ·exact .inl g
     ·exact .inr ⟨j + 1, e', by rw [q1]; congr 1; omega, by simpa using q2, by rw [q3]; congr 3; omega, x', by simpa using q4, q5⟩
    ·cases hf
 have hfk : (Instr.findKey kt key es.toList).run P w = (Instr.findAsking kt key es.toList 0).run P w := by
  unfold Instr.findKey
  simp only [Sem.run_bind, run_underlying g2, Result.andThen_ok]
  cases es.toList with
  | nil => rfl
  | cons e es => rfl
 rw [hfk]
 rcases ask es.toList ks 0 r (by simpa using hl) (fun j e x h1 h2 => hr j e x (by simpa using h1) h2) hf with g | ⟨j, e, q1, q2, q3, x, q4, q5⟩
 ·exact .inl g
 ·refine .inr ⟨j, e, by simpa using q1, by simpa using q2, by simpa using q3, ?_⟩
  have hx : RelV S w e.key x := hr j e x (by simpa using q2) q4
  unfold Instr.keyThatStays
  have hsb : Instr.sameBits 10000 e.key key = true := same2 q5 hk hx
  simp only [hsb, if_true, Sem.run_pure]
variable {h : List AObj} {vs : List D} {x : D} {β : Blocks}
theorem mapKV_sound (hi : HInv S β w h) (hm : mapKV h x = some (ks, vs)) (hv : RelD S β w v x) :
  (v = .map none ∧ ks = [] ∧ vs = [] ∧ isNilM x = some true) ∨ ∃ b es, v = .map (some b) ∧ isNilM x = some false ∧ w.heap[b]? = some (.map es es.size) ∧ Rising es ∧ es.size = ks.length ∧ vs.length = ks.length ∧ (∀ (i : Nat) (e : MapEntry) (x : V), es[i]? = some e → ks[i]? = some x → RelV S w e.key x) ∧
   ∀ (i : Nat) (e : MapEntry) (d : D), es[i]? = some e → vs[i]? = some d → RelD S β w e.val d := by
 unfold mapKV at hm
 split at hm
 ·cases hm; cases hv.of_v; exact .inl ⟨rfl, rfl, rfl, rfl⟩
 ·rename_i ks' vs'
  cases hm
  cases hv.of_v with
  | map b es _ _ hs hm hb hk hvl hrk hrv =>
  refine .inr ⟨b, es, rfl, rfl, mapAt_some hm, hb, hk, by simp; omega, hrk, fun i e d he hd => ?_⟩
  rw [zG] at hd
  obtain ⟨y, hy, rfl⟩ := zB.1 hd
  exact .v _ _ (hrv i e y he hy)
 ·rename_i r
  split at hm
  ·rename_i ks' vs' ho
   cases hm
   cases hv with
   | map _ b c k hb =>
   obtain ⟨o1, o2, es, o3, o4, o5, o6, o7⟩ := hi.obj r _ b c k ho hb
   exact .inr ⟨b, es, rfl, rfl, o3, o4, o5, o2, o6, o7⟩
  ·cases hm
 ·cases hm
theorem run_zero {T : Nat → Option TI} (hT : ∀ t i, T t = some i → tiOf P t = some i) {e : Nat} {i : TI} (he : T e = some i) (w : World) : ∃ z, (zeroValue e).run P w = .ok z w ∧ ∀ S, RelV S w z i.zero := by
 obtain ⟨info, desc, z, g1, g2, g3, g4, g5, g6, g7, g8, _⟩ := tiOf_spec (hT _ _ he)
 exact ⟨z, by simp [zeroValue, run_typeInfo g1, g3], fun S => ofValue_rel g4⟩
variable {d : D} {u : Value}
theorem rel_pair {e : D} (hd : RelD S β w u d) (he : RelD S β w v e) : RelD S β w (.tuple #[u, v]) (mkTuple [d, e]) := by
 refine rel_mkTuple rfl (fun i x y hx hy => ?_)
 match i with
 | 0 => simp at hx hy; subst hx; subst hy; exact hd
 | 1 => simp at hx hy; subst hx; subst hy; exact he
 | i + 2 => simp at hx
variable {i : D} {t : Nat}
theorem lookup_sound {T : Nat → Option TI} (hT : ∀ t i, T t = some i → tiOf P t = some i) (hi : HInv S β w h) {ok : Bool}
  (hd : lookupD T h t x i ok = some d) (hv : RelD S β w v x) (hu : RelD S β w u i) : ∃ y, (Instr.lookup t v u ok).run P w = .ok y w ∧ RelD S β w y d := by
 unfold lookupD at hd
 split at hd
 ·cases hd
 rename_i ti hti
 split at hd
 case h_2 => cases hd
 rename_i kt et k hkd
 obtain ⟨info, desc, z, g1, g2, g3, g4, g5, g6, g7, g8, _⟩ := tiOf_spec (hT _ _ hti)
 rw [hkd] at g5
 have := tkOf_map g5
 subst this
 split at hd
 ·cases hd
 rename_i ei hei
 split at hd
 case isFalse => cases hd
 rename_i hko
 split at hd
 ·cases hd
 rename_i ks vs hkv
 obtain ⟨zv, hz, hzr⟩ := run_zero hT hei w
 have hkey := hu.of_v
 -- the entries as an array
 have ent : ∃ es : Array MapEntry, es.size = ks.length ∧ (∀ (i : Nat) (e : MapEntry) (x : V), es[i]? = some e → ks[i]? = some x → RelV S w e.key x) ∧ (∀ (i : Nat) (e : MapEntry) (d : D), es[i]? = some e → vs[i]? = some d → RelD S β w e.val d) ∧
   ((v = .map none ∧ es = #[]) ∨ ∃ b, v = .map (some b) ∧ w.heap[b]? = some (.map es es.size)) := by
  rcases mapKV_sound hi hkv hv with ⟨rfl, rfl, rfl, _⟩ | ⟨b, es, rfl, _, m1, m2, m3, m4, m5, m6⟩
  ·exact ⟨#[], rfl, fun i e x he => by simp at he, fun i e d he => by simp at he, .inl ⟨rfl, rfl⟩⟩
  ·exact ⟨es, m3, m5, m6, .inr ⟨b, rfl, m1⟩⟩
 obtain ⟨es, e1, e2, e3, e4⟩ := ent
 split at hd
 ·cases hd
 ·rename_i j hf
  obtain ⟨c1, c2⟩ := findKey_sound hT hko hkey e1 e2 hf
  rcases c2 with ⟨c2, _⟩ | ⟨j', e, c2, c3, c4, _⟩
  ·cases c2
  cases c2
  obtain ⟨y, hy, rfl⟩ := zB.1 hd
  have hval := e3 j e y c3 hy
  refine ⟨if ok then .tuple #[e.val, .bool true] else e.val, ?_, ?_⟩
  ·rcases e4 with ⟨rfl, rfl⟩ | ⟨b, rfl, hb⟩
   ·simp at c3
   ·simp [Instr.lookup, run_underlying g2, MapKept.run_getObj_map hb, c1, c4, Result.andThen]
  ·cases ok
   ·exact hval
   ·exact rel_pair hval (.v _ _ (.bool _))
 ·rename_i hf
  obtain ⟨c1, c2⟩ := findKey_sound hT hko hkey e1 e2 hf
  rcases c2 with ⟨_, c2⟩ | ⟨j', e, c2, _⟩
  rotate_left
  ·cases c2
  cases hd
  refine ⟨if ok then .tuple #[zv, .bool false] else zv, ?_, ?_⟩
  ·rcases e4 with ⟨rfl, rfl⟩ | ⟨b, rfl, hb⟩
   ·simp only at c2
    simp [Instr.lookup, run_underlying g2, c1, c2, hz, Result.andThen]
   ·simp [Instr.lookup, run_underlying g2, MapKept.run_getObj_map hb, c1, c2, hz, Result.andThen]
  ·cases ok
   ·exact .v _ _ (hzr S)
   ·refine .v _ _ (.tuple _ _ rfl fun i x y hx hy => ?_)
    match i with
    | 0 => simp at hx hy; subst hx; subst hy; exact hzr S
    | 1 => simp at hx hy; subst hx; subst hy; exact .bool _
    | i + 2 => simp at hx
variable {b c : Nat}
theorem map_set {o : Obj} (hb : w.heap[b]? = some (.map es c)) : (setBlock w b o).heap[b]? = some o ∧ (∀ j, j ≠ b → (setBlock w b o).heap[j]? = w.heap[j]?) ∧ (setBlock w b o).heap.size = w.heap.size := by
 have hlt := (Array.getElem?_eq_some_iff.1 hb).1
 refine ⟨by simp [setBlock, hlt], fun j hj => by simp [setBlock, Ne.symm hj], by simp [setBlock]⟩
theorem map_written (hi : HInv S β w h) {r k : Nat} {ks' : List V} {vs' : List D} {es' : Array MapEntry} (hr : h[r]? = some (.map ks vs)) (hb : β[r]? = some (b, c, k))
  (hm : w.heap[b]? = some (.map es es.size)) (h1 : vs'.length = ks'.length) (h2 : Rising es') (h3 : es'.size = ks'.length)
  (h4 : ∀ w', Keeps S w S w' → ∀ (i : Nat) (e : MapEntry) (x : V), es'[i]? = some e → ks'[i]? = some x → RelV S w' e.key x) (h5 : ∀ w', Keeps S w S w' → ∀ (i : Nat) (e : MapEntry) (d : D), es'[i]? = some e → vs'[i]? = some d → RelD S β w' e.val d) :
  Ext DR S β w S β (setBlock w b (.map es' es'.size)) ∧ HInv S β (setBlock w b (.map es' es'.size)) (h.set r (.map ks' vs')) := by
 obtain ⟨s1, s2, s3⟩ := map_set (o := .map es' es'.size) hm
 have ho := hi.obj r _ b c k hr hb
 exact own_write (DR := DR) hi hr rfl hb s3 s2 rfl rfl rfl (zL _) rfl fun hK => ⟨ho.1, h1, es', s1, h2, h3, h4 _ hK, h5 _ hK⟩
theorem rising_push (h : Rising es) (k v : Value) : Rising (es.push ⟨k, v, es.size⟩) := by
 intro i e he
 rw [Array.getElem?_push] at he
 split at he
 ·rename_i hi; cases he; exact hi.symm
 ·exact h i e he
theorem rising_modify (h : Rising es) (j : Nat) (f : MapEntry → MapEntry) (hf : ∀ e, (f e).born = e.born) : Rising (es.modify j f) := by
 intro i e he
 rw [Array.getElem?_modify] at he
 split at he
 ·obtain ⟨x, hx, rfl⟩ := zB.1 he
  rw [hf]; exact h i x hx
 ·exact h i e he
variable {e : MapEntry}
theorem get_modify {j : Nat} {f : MapEntry → MapEntry} {i : Nat} (h : (es.modify j f)[i]? = some e) : (i = j ∧ ∃ e0, es[i]? = some e0 ∧ e = f e0) ∨ (i ≠ j ∧ es[i]? = some e) := by
 rw [Array.getElem?_modify] at h
 split at h
 ·rename_i hij
  obtain ⟨x, hx, rfl⟩ := zB.1 h
  exact .inl ⟨hij.symm, x, hx, rfl⟩
 ·rename_i hij
  exact .inr ⟨fun e => hij e.symm, h⟩
theorem get_push {e0 : MapEntry} {i : Nat} (h : (es.push e0)[i]? = some e) : (i = es.size ∧ e = e0) ∨ (i < es.size ∧ es[i]? = some e) := by
 rw [Array.getElem?_push] at h
 split at h
 ·rename_i hi; cases h; exact .inl ⟨hi, rfl⟩
 ·exact .inr ⟨(Array.getElem?_eq_some_iff.1 h).1, h⟩
theorem mapSet_sound {T : Nat → Option TI} (hT : ∀ t i, T t = some i → tiOf P t = some i) {h' : List AObj} (hi : HInv S β w h) {m : D}
  (hd : mapSetD T h t m i x = some h') {y : Value} (hv : RelD S β w v m) (hu : RelD S β w u i) (hy : RelD S β w y x) : ∃ w', (Instr.mapUpdate t v u y).run P w = .ok () w' ∧ Ext DR S β w S β w' ∧ HInv S β w' h' := by
 unfold mapSetD at hd
 split at hd
 ·cases hd
 rename_i ti hti
 split at hd
 case h_2 => cases hd
 rename_i kt et r k hkd
 obtain ⟨info, desc, z, g1, g2, g3, g4, g5, g6, g7, g8, _⟩ := tiOf_spec (hT _ _ hti)
 rw [hkd] at g5
 have := tkOf_map g5
 subst this
 split at hd
 case h_2 => cases hd
 rename_i ks vs hr
 split at hd
 case isFalse => cases hd
 rename_i hko
 have hkey := hu.of_v
 cases hv with
 | map _ b c q hb =>
 obtain ⟨o1, o2, es, o3, o4, o5, o6, o7⟩ := hi.obj r _ b c q hr hb
 split at hd
 ·cases hd
 ·rename_i j hf
  cases hd
  obtain ⟨c1, c2⟩ := findKey_sound hT hko hkey o5 o6 hf
  rcases c2 with ⟨c2, _⟩ | ⟨j', e, c2, c3, c4, c5⟩
  ·cases c2
  cases c2
  have hw := map_written (DR := DR) (es' := es.modify j fun e => { e with key := u, val := y }) (ks' := ks.set j k) (vs' := vs.set j x) hi hr hb o3 (by simp [o2]) (rising_modify o4 _ _ fun _ => rfl) (by simp [o5])
   (fun w' hK i e' z he hz => by
    rw [zR] at hz
    rcases get_modify he with ⟨rfl, e0, he0, rfl⟩ | ⟨hne, he0⟩
    ·rw [if_pos rfl] at hz
     split at hz
     ·cases hz; exact hkey.mono hK
     ·cases hz
    ·rw [if_neg (Ne.symm hne)] at hz
     exact (o6 i e' z he0 hz).mono hK)
   (fun w' hK i e' z he hz => by
    rw [zR] at hz
    rcases get_modify he with ⟨rfl, e0, he0, rfl⟩ | ⟨hne, he0⟩
    ·rw [if_pos rfl] at hz
     split at hz
     ·cases hz; exact hy.mono hK (fun _ _ h => h)
     ·cases hz
    ·rw [if_neg (Ne.symm hne)] at hz
     exact (o7 i e' z he0 hz).mono hK (fun _ _ h => h))
  refine ⟨_, ?_, hw⟩
  simp [Instr.mapUpdate, run_underlying g2, MapKept.run_getObj_map o3, c1, c4, c3, c5, MapKept.run_setObj_map _ o3, Result.andThen, setBlock]
 ·rename_i hf
  cases hd
  obtain ⟨c1, c2⟩ := findKey_sound hT hko hkey o5 o6 hf
  rcases c2 with ⟨_, c2⟩ | ⟨j', e, c2, _⟩
  rotate_left
  ·cases c2
  have hw := map_written (DR := DR) (es' := es.push ⟨u, y, es.size⟩) (ks' := ks ++ [k]) (vs' := vs ++ [x]) hi hr hb o3 (by simp [o2]) (rising_push o4 _ _) (by simp [o5])
   (fun w' hK i e' z he hz => by
    rcases get_push he with ⟨rfl, rfl⟩ | ⟨hlt, he0⟩
    ·rw [o5] at hz; simp at hz; subst hz; exact hkey.mono hK
    ·rw [zJ om] at hz
     exact (o6 i e' z he0 hz).mono hK)
   (fun w' hK i e' z he hz => by
    rcases get_push he with ⟨rfl, rfl⟩ | ⟨hlt, he0⟩
    ·rw [o5, ← o2] at hz; simp at hz; subst hz; exact hy.mono hK (fun _ _ h => h)
    ·rw [zJ om] at hz
     exact (o7 i e' z he0 hz).mono hK (fun _ _ h => h))
  refine ⟨_, ?_, hw⟩
  simp [Instr.mapUpdate, run_underlying g2, MapKept.run_getObj_map o3, c1, c2, MapKept.run_setObj_map _ o3, Result.andThen, setBlock]
theorem makeMap_sound (hi : HInv S β w h) (t : Nat) :
  ∃ β', Ext DR S β w S β' (w.alloc (.map #[] 0)) ∧ HInv S β' (w.alloc (.map #[] 0)) (h ++ [.map [] []]) ∧ RelD S β' (w.alloc (.map #[] 0)) (.map (some w.heap.size)) (.map h.length) := by
 obtain ⟨e1, e2⟩ := own_allocO (DR := DR) hi (.map #[] 0) 0 1 (.map [] []) rfl ⟨rfl, rfl, #[], heap_alloc_new w _, fun i e he => by simp at he, rfl, fun i e x he => by simp at he, fun i e x he => by simp at he⟩
 refine ⟨_, e1, e2, .map _ _ 0 1 ?_⟩
 rw [← hi.len]
 simp
theorem lenMap_sound {T : Nat → Option TI} (hT : ∀ t i, T t = some i → tiOf P t = some i) (hi : HInv S β w h) {ty : Nat} (ht : mapT T t = true)
  (hd : lenMapD h x = some d) (hv : RelD S β w v x) : ∃ y, (Builtin.len_ #[t] ty #[v]).run P w = .ok y w ∧ RelD S β w y d := by
 unfold mapT at ht
 split at ht
 case h_2 => cases ht
 rename_i ti hti
 split at ht
 case h_2 => cases ht
 rename_i kk ee hk
 obtain ⟨info, desc, z, g1, g2, g3, g4, g5, g6, g7, g8, _⟩ := tiOf_spec (hT _ _ hti)
 rw [hk] at g5
 have := tkOf_map g5
 subst this
 unfold lenMapD at hd
 split at hd
 case h_2 => cases hd
 rename_i r
 split at hd
 case h_2 => cases hd
 rename_i ks vs hr
 cases hd
 cases hv with
 | map _ b c k hb =>
 obtain ⟨h1, h2, es, h3, h4, h5, h6, h7⟩ := hi.obj r _ b c k hr hb
 exact ⟨.int .i64 es.size, by simp [Builtin.len_, run_underlying g2, MapKept.run_getObj_map h3, goInt, Result.andThen], by rw [h5]; exact .v _ _ (.int _ _)⟩
variable {DR : Prop}
theorem allM_spec {α β : Type} {f : α → Option β} : ∀ {l : List α} {ys : List β}, allM f l = some ys → ys.length = l.length ∧ ∀ (i : Nat) (x : α) (y : β), l[i]? = some x → ys[i]? = some y → f x = some y
 | [], ys, h => by simp [allM] at h; subst h; simp
 | a :: r, ys, h => by
  simp only [allM] at h
  split at h
  ·rename_i z zs hz hzs
   cases h
   obtain ⟨h1, h2⟩ := allM_spec hzs
   refine ⟨by simp [h1], fun i x y hx hy => ?_⟩
   cases i with
   | zero => simp at hx hy; subst hx; subst hy; exact hz
   | succ i => simp at hx hy; exact h2 i x y hx hy
  ·cases h
variable {v : Value} {x : V}
theorem RelV.plainS {S : Nat → Nat → Prop} {w : World} (h : RelV S w v x) : RelV S w v (plainS x) := by
 cases h with
 | slnil fl h => exact .slnil _ (by decide)
 | slemp fl a cap h hf hm => exact .slemp _ a cap (by decide) (fun h => by cases h) hm
 | sl fl b off cap k n es vals hn h hf hc hm hk hs hr => exact .sl _ b off cap k n es vals hn (by decide) (fun h => by cases h) hc hm hk hs hr
 | bool b => exact .bool b
 | int k n => exact .int k n
 | str s => exact .str s
 | nilptr => exact .nilptr
 | nilmap => exact .nilmap
 | nilfunc => exact .nilfunc
 | nilif => exact .nilif
 | fn f => exact .fn f
 | clo f captured caps q hl hp hc hs hr => exact .clo f captured caps q hl hp hc hs hr
 | agg vs cs hl hr => exact .agg vs cs hl hr
 | tuple vs cs hl hr => exact .tuple vs cs hl hr
 | ptr b off cells vals hs hr => exact .ptr b off cells vals hs hr
 | map b es ks vs hs hm hb hk hv hrk hrv => exact .map b es ks vs hs hm hb hk hv hrk hrv
theorem RelV.plainV {S : Nat → Nat → Prop} {w : World} (h : RelV S w v x) : RelV S w v (plainV x) := by
 cases x with
 | agg cs =>
  cases h with
  | agg vs _ hl hr =>
  refine .agg vs _ (by simpa using hl) (fun i v x hv hx => ?_)
  simp only [zG] at hx
  obtain ⟨y, hy, rfl⟩ := zB.1 hx
  exact (hr i v y hv hy).plainS
 | sl fl es => exact h.plainS
 | _ => exact h
theorem plainS_cells (x : V) (h : x.scalar = true) : (Abs.plainS x).cells = [Abs.plainS x] ∧ (Abs.plainS x).scalar = true := by cases x <;> first | exact ⟨rfl, rfl⟩ | cases h
theorem plainV_cells (h : x.solid = true) : (Abs.plainV x).cells = x.cells.map Abs.plainS ∧ (Abs.plainV x).solid = true := by
 cases x with
 | agg cs =>
  refine ⟨rfl, ?_⟩
  show (cs.map Abs.plainS).all V.scalar = true
  simp only [V.solid, zZ] at h ⊢
  intro y hy
  obtain ⟨z, hz, rfl⟩ := List.mem_map.1 hy
  exact (plainS_cells z (h z hz)).2
 | tuple cs => cases h
 | _ => exact ⟨rfl, rfl⟩
theorem RelV.mapPlain {S : Nat → Nat → Prop} {w : World} {fl : SFlag} {es : List V} (h : RelV S w v (.sl fl es)) : RelV S w v (.sl fl (es.map Abs.plainV)) := by
 cases h with
 | slnil fl h => exact .slnil fl h
 | slemp fl a cap h hf hm => exact .slemp fl a cap h hf hm
 | sl fl b off cap k n es vals hn h hf hc hm hk hs hr =>
  refine .sl fl b off cap k n _ vals (by simpa using hn) h hf hc hm (fun i x hx => ?_) hs (fun i j x c hx hc' => ?_)
  ·rw [zG] at hx
   obtain ⟨y, hy, rfl⟩ := zB.1 hx
   obtain ⟨h1, h2⟩ := hk i y hy
   obtain ⟨h3, h4⟩ := plainV_cells h1
   exact ⟨h4, by rw [h3]; simpa using h2⟩
  ·rw [zG] at hx
   obtain ⟨y, hy, rfl⟩ := zB.1 hx
   rw [(plainV_cells (hk i y hy).1).1, zG] at hc'
   obtain ⟨z, hz, rfl⟩ := zB.1 hc'
   exact (hr i j y z hy hz).plainS
theorem RelV.plainT {S : Nat → Nat → Prop} {w : World} (h : RelV S w v x) : RelV S w v (plainT x) := by
 cases x with
 | tuple cs =>
  cases h with
  | tuple vs _ hl hr =>
  refine .tuple vs _ (by simpa using hl) (fun i v x hv hx => ?_)
  simp only [zG] at hx
  obtain ⟨y, hy, rfl⟩ := zB.1 hx
  exact (hr i v y hv hy).plainV
 | _ => exact h.plainV
def withOwn (S : Nat → Nat → Prop) (β : Blocks) (h : List AObj) : Nat → Nat → Prop :=
 fun b i => S b i ∨ ∃ (r : Nat) (o : AObj) (c k : Nat), h[r]? = some o ∧ o.live = true ∧ β[r]? = some (b, c, k)
theorem keeps_own (S : Nat → Nat → Prop) (β : Blocks) (h : List AObj) (w : World) : Keeps S w (withOwn S β h) w := fun _ _ hs => ⟨.inl hs, rfl⟩
theorem chunk_spec (k : Nat) : ∀ (n : Nat) (l : List V), l.length = n * k → (chunk k n l).length = n ∧ ∀ (i : Nat) (x : V), (chunk k n l)[i]? = some x → x = .agg ((l.drop (i * k)).take k)
 | 0, l, _ => ⟨rfl, fun i x h => by simp [chunk] at h⟩
 | n + 1, l, hl => by
  rw [Nat.add_mul, Nat.one_mul] at hl
  obtain ⟨h1, h2⟩ := chunk_spec k n (l.drop k) (by rw [List.length_drop]; omega)
  refine ⟨by show (chunk k n (l.drop k)).length + 1 = n + 1; rw [h1], fun i x h => ?_⟩
  cases i with
  | zero =>
   have h : some (V.agg (l.take k)) = some x := h
   rw [← zC h, Nat.zero_mul, List.drop_zero]
  | succ i =>
   have h : (chunk k n (l.drop k))[i]? = some x := h
   rw [h2 i x h, List.drop_drop, Nat.add_mul, Nat.one_mul, Nat.add_comm k]
theorem frz_sound {S : Nat → Nat → Prop} {β : Blocks} {w : World} {h : List AObj} (hi : HInv S β w h) : ∀ (n : Nat) (d : D) (x : V) (v : Value), frz h n d = some x → RelD S β w v d → RelV (withOwn S β h) w v x := by
 intro n
 induction n with
 | zero => intro d x v h; simp [frz] at h
 | succ n ih =>
  intro d x v hx hv
  have list : ∀ (ds : List D) (xs : List V) (vs : Array Value), vs.size = ds.length → (∀ (i : Nat) v d, vs[i]? = some v → ds[i]? = some d → RelD S β w v d) → allM (frz h n) ds = some xs →
    vs.size = xs.length ∧ ∀ (i : Nat) v x, vs[i]? = some v → xs[i]? = some x → RelV (withOwn S β h) w v x := by
   intro ds xs vs hl hr ha
   obtain ⟨a1, a2⟩ := allM_spec ha
   refine ⟨om, fun i v x hv hx => ?_⟩
   have hlt := yE hx
   have hd := zA (l := ds) (i := i) om
   exact ih _ _ _ (a2 i _ x hd hx) (hr i v _ hv hd)
  cases d with
  | v y =>
   simp only [frz, Option.some.injEq] at hx
   subst hx
   exact (hv.of_v.mono (keeps_own S β h w)).plainT
  | agg cs =>
   simp only [frz] at hx
   obtain ⟨xs, hxs, rfl⟩ := zB.1 hx
   cases hv with
   | agg vs _ hl hr =>
   obtain ⟨l1, l2⟩ := list cs xs vs hl hr hxs
   exact .agg vs xs l1 l2
  | tuple cs =>
   simp only [frz] at hx
   obtain ⟨xs, hxs, rfl⟩ := zB.1 hx
   cases hv with
   | tuple vs _ hl hr =>
   obtain ⟨l1, l2⟩ := list cs xs vs hl hr hxs
   exact .tuple vs xs l1 l2
  | osl r off len full =>
   simp only [frz] at hx
   cases hv with
   | osl _ _ _ b c k p cap _ hb hlen hp hcap =>
   subst hp
   have hlc : len ≤ cap ∧ cap ≤ c := by rw [hcap]; split <;> omega
   split at hx
   ·rename_i k' es hes
    split at hx
    ·rename_i hle
     cases hx
     obtain ⟨rfl, o2, o3, o4, o5, cur, e, o6, o7, o8⟩ := hi.obj r _ b c k hes hb
     have hxl : ((es.drop off).take len).length = len := by simp; omega
     have hsol : Solid k' ((es.drop off).take len) := Solid.take_drop o5 off len
     have hin : off * k' + len * k' ≤ cur.size := by rw [o7, ← Nat.add_mul]; exact yD _ om
     refine .sl _ b (off * k') cap k' len _ (fun q => cur.getD (off * k' + q) undef) hxl.symm (by decide) (fun h => by cases h) hlc.1 om hsol (fun i j hi' hj => ?_) (fun i j x c' hx' hy => ?_)
     ·have := mul_lt_of (k := k') hi' hj
      refine ⟨.inr ⟨r, _, c, k', hes, rfl, hb⟩, ?_⟩
      rw [cell_own o6, zD om]
      simp [Array.getD, show off * k' + (i * k' + j) < cur.size by omega]
     ·have hj := yE hy
      rw [(hsol i x hx').2] at hj
      have hi' := yE hx'
      rw [hxl] at hi'
      have := mul_lt_of (k := k') hi' hj
      rw [yA, if_pos hi', zY] at hx'
      refine RelV.mono (keeps_own S β h w) (o8 (off + i) j x c' _ hx' hy ?_)
      rw [Nat.add_mul, Nat.add_assoc, zD om]
      simp [Array.getD, show off * k' + (i * k' + j) < cur.size by omega]
    ·cases hx
   ·rename_i cs hcs
    split at hx
    ·rename_i hle
     split at hx
     ·rename_i xs hxs
      split at hx
      ·rename_i hsc
       cases hx
       obtain ⟨rfl, o2, o3, cur, e, o4, o5, o6⟩ := hi.obj r _ b c k hcs hb
       obtain ⟨a1, a2⟩ := allM_spec hxs
       have hxl : xs.length = len := by rw [a1]; simp; omega
       have h1 : ∀ (i : Nat) (x : V), xs[i]? = some x → x.solid = true ∧ x.cells.length = 1 := by
        intro i x hx
        have := zZ.1 hsc x (zE hx)
        cases x <;> first | exact ⟨rfl, rfl⟩ | cases this
       refine .sl _ b (off * 1) cap 1 len xs (fun q => cur.getD (off + q) undef) hxl.symm (by decide) (fun h => by cases h) hlc.1 om h1 (fun i j hi' hj => ?_) (fun i j x c' hx' hy => ?_)
       ·have hj0 : j = 0 := by omega
        subst hj0
        refine ⟨.inr ⟨r, _, c, 1, hcs, rfl, hb⟩, ?_⟩
        simp only [Nat.mul_one, Nat.add_zero]
        rw [cell_own o4, zD om]
        simp [Array.getD, show off + i < cur.size by omega]
       ·have hj := yE hy
        rw [(h1 i x hx').2] at hj
        have hj0 : j = 0 := by omega
        subst hj0
        have hi' := yE hx'
        have hcell : x.cells = [x] := by
         have := zZ.1 hsc x (zE hx')
         cases x <;> first | rfl | cases this
        rw [hcell] at hy
        simp at hy
        subst hy
        have hd := zA (l := (cs.drop off).take len) (i := i) (by simp; omega)
        have hf := a2 i _ _ hd hx'
        rw [yA, if_pos om, zY] at hd
        simp only [Nat.mul_one, Nat.add_zero]
        refine ih _ _ _ hf (o6 (off + i) _ _ ?_ hd)
        rw [zD om]
        simp [Array.getD, show off + i < cur.size by omega]
      ·cases hx
     ·cases hx
    ·cases hx
   ·rename_i k' cs hcs
    split at hx
    ·rename_i hle
     split at hx
     ·rename_i xs hxs
      split at hx
      ·rename_i hsc
       cases hx
       obtain ⟨rfl, o0, o2, o3, cur, e, o4, o5, o6⟩ := hi.obj r _ b c k hcs hb
       obtain ⟨a1, a2⟩ := allM_spec hxs
       rw [Nat.add_mul] at hle
       have hxl : xs.length = len * k' := by rw [a1, zW, List.length_drop]; omega
       obtain ⟨c1, c2⟩ := chunk_spec k' len xs hxl
       have hin : off * k' + len * k' ≤ cur.size := by rw [o5]; omega
       have hpart : ∀ (i : Nat) (x : V), (chunk k' len xs)[i]? = some x → x = .agg ((xs.drop (i * k')).take k') ∧ ((xs.drop (i * k')).take k').length = k' := fun i x hx => by
        have hi' := yE hx
        rw [c1] at hi'
        have h3 : (i + 1) * k' ≤ len * k' := yD _ hi'
        rw [Nat.add_mul] at h3
        exact ⟨c2 i x hx, by rw [zW, List.length_drop, hxl]; omega⟩
       have h1 : ∀ (i : Nat) (x : V), (chunk k' len xs)[i]? = some x → x.solid = true ∧ x.cells.length = k' := fun i x hx => by
        obtain ⟨rfl, hl⟩ := hpart i x hx
        refine ⟨?_, hl⟩
        show ((xs.drop (i * k')).take k').all V.scalar = true
        rw [zZ] at hsc ⊢
        exact fun y hy => hsc y (List.mem_of_mem_drop (List.mem_of_mem_take hy))
       refine .sl _ b (off * k') cap k' len _ (fun q => cur.getD (off * k' + q) undef) c1.symm (by decide) (fun h => by cases h) hlc.1 om h1 (fun i j hi' hj => ?_) (fun i j x c' hx' hy => ?_)
       ·have := mul_lt_of (k := k') hi' hj
        refine ⟨.inr ⟨r, _, c, k', hcs, rfl, hb⟩, ?_⟩
        rw [cell_own o4, zD om]
        simp [Array.getD, show off * k' + (i * k' + j) < cur.size by omega]
       ·have hj := yE hy
        rw [(h1 i x hx').2] at hj
        have hi' := yE hx'
        rw [c1] at hi'
        have hm := mul_lt_of (k := k') hi' hj
        obtain ⟨rfl, _⟩ := hpart i x hx'
        have hy : ((xs.drop (i * k')).take k')[j]? = some c' := hy
        rw [yA, if_pos hj, zY] at hy
        have hd := zA (l := (cs.drop (off * k')).take (len * k')) (i := i * k' + j) (by rw [zW, List.length_drop]; omega)
        have hf := a2 _ _ _ hd hy
        rw [yA, if_pos hm, zY] at hd
        refine ih _ _ _ hf (o6 (off * k' + (i * k' + j)) _ _ ?_ hd)
        rw [zD om]
        simp [Array.getD, show off * k' + (i * k' + j) < cur.size by omega]
      ·cases hx
     ·cases hx
    ·cases hx
   ·cases hx
  | tsl t es =>
   simp only [frz, Option.some.injEq] at hx
   subst hx
   exact hv.unt.of_v.mono (keeps_own S β h w)
  | func f first cs =>
   cases first with
   | cons a b => simp [frz] at hx
   | nil =>
   simp only [frz] at hx
   obtain ⟨caps, hcaps, rfl⟩ := zB.1 hx
   obtain ⟨a1, a2⟩ := allM_spec hcaps
   cases hv with
   | func _ first captured _ _ hl hl' hr hr' =>
   obtain rfl : first = #[] := Array.eq_empty_of_size_eq_zero hl
   have key : ∀ i : Nat, ∃ q : Nat × Nat × List V × (Nat → Value), i < caps.length → (∀ v, captured[i]? = some v → v = .pointer (some ⟨q.1, q.2.1, none⟩)) ∧ (∀ x, caps[i]? = some x → x = .agg q.2.2.1) ∧
     (∀ j : Nat, j < q.2.2.1.length → withOwn S β h q.1 (q.2.1 + j) ∧ w.cell? ⟨q.1, q.2.1 + j, none⟩ = some (q.2.2.2 j)) ∧ ∀ (j : Nat) y, q.2.2.1[j]? = some y → RelV (withOwn S β h) w (q.2.2.2 j) y := by
    intro i
    by_cases hi' : i < caps.length
    ·have hx := zA hi'
     have hd := zA (l := cs) (i := i) om
     have hcv := zD (xs := captured) (i := i) om
     have hf := a2 i _ _ hd hx
     have hrel := hr' i _ _ hcv hd
     generalize caps[i] = x at hx hf
     generalize cs[i]'om = d at hd hf hrel
     generalize captured[i]'om = v at hcv hrel
     unfold frzCap at hf
     split at hf
     ·rename_i r
      split at hf
      ·rename_i ds hds
       obtain ⟨ys, hys, rfl⟩ := zB.1 hf
       obtain ⟨b1, b2⟩ := allM_spec hys
       cases hrel with
       | ptr _ _ b c k hb =>
       obtain ⟨rfl, o2, o3, cur, e, o4, o5, o6⟩ := hi.obj r _ b c k hds hb
       refine ⟨(b, 0, ys, fun j => cur.getD j undef), fun _ => ⟨fun v' hv' => ?_, fun x' hx' => ?_, fun j hj => ?_, fun j y hy => ?_⟩⟩
       ·rw [hcv] at hv'; exact (zC hv').symm
       ·rw [hx] at hx'; exact (zC hx').symm
       ·have hj' : j < ys.length := hj
        refine ⟨.inr ⟨r, _, c, 1, hds, rfl, hb⟩, ?_⟩
        simp only [Nat.zero_add]
        rw [cell_own o4, zD om]
        simp [Array.getD, show j < cur.size by omega]
       ·have hj' := yE hy
        have hj' : j < ys.length := hj'
        have hdj := zA (l := ds) (i := j) om
        refine ih _ _ _ (b2 j _ y hdj hy) (o6 j _ _ ?_ hdj)
        rw [zD om]
        simp [Array.getD, show j < cur.size by omega]
      ·cases hf
     ·rename_i ys
      cases hf
      cases hrel with
      | vptr b off _ vals hs hr =>
      refine ⟨(b, off, ys, vals), fun _ => ⟨fun v' hv' => ?_, fun x' hx' => ?_, fun j hj => ⟨.inl (hs j hj).1, (hs j hj).2⟩, fun j y hy => (hr j y hy).mono (keeps_own S β h w)⟩⟩
      ·rw [hcv] at hv'; exact (zC hv').symm
      ·rw [hx] at hx'; exact (zC hx').symm
     ·cases hf
    ·exact ⟨(0, 0, [], fun _ => undef), fun hlt => absurd hlt hi'⟩
   obtain ⟨q, hq⟩ := Classical.axiomOfChoice key
   exact .clo f captured caps q om (fun i v hv => (hq i (by have := (Array.getElem?_eq_some_iff.1 hv).1; omega)).1 v hv) (fun i x hx => (hq i (yE hx)).2.1 x hx) (fun i j hi hj => (hq i hi).2.2.1 j hj) (fun i j y hi hy => (hq i hi).2.2.2 j y hy)
  | vptr cs =>
   simp only [frz, Option.some.injEq] at hx
   subst hx
   cases hv with
   | vptr b off _ vals hs hr => exact .ptr b off _ vals (fun j hj => ⟨.inl (hs j hj).1, (hs j hj).2⟩) (fun j x hx => (hr j x hx).mono (keeps_own S β h w))
  | map r =>
   simp only [frz] at hx
   split at hx
   ·rename_i ks vs ho
    obtain ⟨xs, hxs, rfl⟩ := zB.1 hx
    obtain ⟨a1, a2⟩ := allM_spec hxs
    cases hv with
    | map _ b c k hb =>
    obtain ⟨o1, o2, es, o3, o4, o5, o6, o7⟩ := hi.obj r _ b c k ho hb
    refine .map b es ks xs (.inr ⟨r, _, c, k, ho, rfl, hb⟩) (mapAt_of o3) o4 o5 om (fun i e x he hx => (o6 i e x he hx).mono (keeps_own S β h w)) (fun i e x he hx => ?_)
    have hlt := yE hx
    have hd := zA (l := vs) (i := i) om
    exact ih _ _ _ (a2 i _ x hd hx) (o7 i e _ he hd)
   ·cases hx
  | ptr r off =>
   cases off with
   | succ off => simp [frz] at hx
   | zero =>
   simp only [frz] at hx
   split at hx
   ·rename_i cs ho
    obtain ⟨xs, hxs, rfl⟩ := zB.1 hx
    obtain ⟨a1, a2⟩ := allM_spec hxs
    cases hv with
    | ptr _ _ b c k hb =>
    obtain ⟨rfl, o2, o3, cur, e, o4, o5, o6⟩ := hi.obj r _ b c k ho hb
    refine .ptr b 0 xs (fun j => cur.getD j undef) (fun j hj => ⟨.inr ⟨r, _, c, 1, ho, rfl, hb⟩, ?_⟩) (fun j x hx => ?_)
    ·rw [Nat.zero_add, cell_own o4, zD om]
     simp [Array.getD, show j < cur.size by omega]
    ·have hj := yE hx
     have hd := zA (l := cs) (i := j) om
     refine ih _ _ _ (a2 j _ x hd hx) (o6 j _ _ ?_ hd)
     rw [zD om]
     simp [Array.getD, show j < cur.size by omega]
   ·cases hx
  | _ => simp [frz] at hx
variable {S' : Nat → Nat → Prop}
theorem flat_one {S : Nat → Nat → Prop} {w : World} (h : RelV S w v x) (hf : x.flat = true) (hn : ∀ cs, x ≠ .agg cs ∧ x ≠ .tuple cs) : RelV S' w v x := by
 cases h with
 | bool b => exact .bool b
 | int k n => exact .int k n
 | str s => exact .str s
 | nilptr => exact .nilptr
 | nilmap => exact .nilmap
 | nilfunc => exact .nilfunc
 | nilif => exact .nilif
 | fn f => exact .fn f
 | clo f captured caps q hl hp hc hs hr => cases hf
 | ptr b off cells vals hs hr => cases hf
 | map b es ks vs hs hm hb hk hv hrk hrv => cases hf
 | slnil fl h => exact .slnil fl h
 | slemp fl a cap h hf0 hm => exact .slemp fl a cap h hf0 hm
 | sl fl b off cap k n es vals hn' h hf' hc hm hk hs hr =>
  have : es = [] := by simpa [V.flat] using hf
  subst this
  subst hn'
  exact .sl fl b off cap k 0 [] vals rfl h hf' hc hm hk (fun i j hi => by simp at hi) (fun i j x c hx => by simp at hx)
 | agg vs cs hl hr => exact absurd rfl (hn cs).1
 | tuple vs cs hl hr => exact absurd rfl (hn cs).2
theorem RelV.of_flat {S : Nat → Nat → Prop} {w : World} (h : RelV S w v x) (hf : x.flat = true) : RelV S' w v x := by
 have inner : ∀ (v : Value) (y : V), RelV S w v y → (match y with
   | .bool _ | .int _ _ | .str _ | .nilptr | .nilmap | .nilfunc | .nilif | .fn _ => true
   | .sl _ es => es.isEmpty
   | _ => false) = true → RelV S' w v y := by
  intro v y hv hy
  have hne : ∀ cs, y ≠ .agg cs ∧ y ≠ .tuple cs := by
   intro cs
   constructor
   ·intro e; subst e; cases hy
   ·intro e; subst e; cases hy
  refine flat_one hv ?_ hne
  cases y <;> first | rfl | exact hy | cases hy
 have outer : ∀ (v : Value) (y : V), RelV S w v y → (match y with
   | .bool _ | .int _ _ | .str _ | .nilptr | .nilmap | .nilfunc | .nilif | .fn _ => true
   | .sl _ es => es.isEmpty
   | .agg cs => cs.all fun
    | .bool _ | .int _ _ | .str _ | .nilptr | .nilmap | .nilfunc | .nilif | .fn _ => true
    | .sl _ es => es.isEmpty
    | _ => false
   | _ => false) = true → RelV S' w v y := by
  intro v y hv hy
  by_cases ha : ∃ cs, y = .agg cs
  ·obtain ⟨cs, rfl⟩ := ha
   cases hv with
   | agg vs _ hl hr =>
   simp only [zZ] at hy
   exact .agg vs cs hl (fun i v x hv hx => inner v x (hr i v x hv hx) (hy x (zE hx)))
  ·refine inner v y hv ?_
   cases y <;> first | exact hy | exact absurd ⟨_, rfl⟩ ha
 by_cases ha : ∃ cs, x = .agg cs
 ·obtain ⟨cs, rfl⟩ := ha
  cases h with
  | agg vs _ hl hr =>
  simp only [V.flat, zZ] at hf
  exact .agg vs cs hl (fun i v x hv hx => outer v x (hr i v x hv hx) (hf x (zE hx)))
 ·by_cases hb : ∃ cs, x = .tuple cs
  ·obtain ⟨cs, rfl⟩ := hb
   cases h with
   | tuple vs _ hl hr =>
   simp only [V.flat, zZ] at hf
   exact .tuple vs cs hl (fun i v x hv hx => outer v x (hr i v x hv hx) (hf x (zE hx)))
  ·exact flat_one h hf (fun cs => ⟨fun e => ha ⟨cs, e⟩, fun e => hb ⟨cs, e⟩⟩)
def RelL (S : Nat → Nat → Prop) (β : Blocks) (w : World) (vs : Array Value) (ds : List D) : Prop := vs.size = ds.length ∧ ∀ (i : Nat) (v : Value) (d : D), vs[i]? = some v → ds[i]? = some d → RelD S β w v d
def Is (P : Program) (f : FuncId) : Prop := ∃ fn, P.funcs[f]? = some fn ∧ fn.body.isSome = true ∧ (fn.name == "runtime.NumGoroutine") = false
def CSound (DR : Prop) (P : Program) (Γ : Calling) : Prop := ∀ f ds h d h', Γ f ds h = some (d, h') → Is P f ∧ ∀ S β w vs, RelL S β w vs ds → HInv S β w h →
 Calls P f vs w fun e w' => ∃ v S' β', e = .returned v ∧ Ext DR S β w S' β' w' ∧ HInv S' β' w' h' ∧ RelD S' β' w' v d
theorem hinv_nil {S : Nat → Nat → Prop} {w : World} (hs : ∀ b i, S b i → b < w.heap.size) (hg : Glob S w) : HInv S [] w [] :=
 ⟨rfl, fun r o b c k h => by simp at h, fun r o b c k h => by simp at h, fun r r' o o' b c k c' k' h => by simp at h, fun r o b c k i h => by simp at h, hs, hg, fun r b c k h => by simp at h⟩
theorem own_sb {S : Nat → Nat → Prop} {β : Blocks} {w : World} {h : List AObj} (hi : HInv S β w h) : ∀ b i, withOwn S β h b i → b < w.heap.size := by
 intro b i hs
 rcases hs with hs | ⟨r, o, c, k, h1, h2, h3⟩
 ·exact hi.sb b i hs
 ·exact hi.lt r o b c k h1 h2 h3
theorem back_from {S Sc S1 : Nat → Nat → Prop} {β β1 : Blocks} {w w1 : World} {h h1 : List AObj} (hi : HInv S β w h) (hE : Ext DR Sc [] w S1 β1 w1) (hSc : ∀ b i, S b i → Sc b i)
  (hS' : ∀ b i, S b i → S' b i) (hin : ∀ b i, S' b i → S b i ∨ w.heap.size ≤ b) (hlt : ∀ b i, S' b i → b < w1.heap.size) : Ext DR S β w S' β w1 ∧ HInv S' β w1 h := by
 have hk : Keeps S w S' w1 := fun b i hs => ⟨hS' b i hs, (hE.keeps b i (hSc b i hs)).2⟩
 have hold : ∀ b, b < w.heap.size → w1.heap[b]? = w.heap[b]? := fun b hb => hE.rest b hb (fun r c k hr => by simp at hr)
 constructor
 ·exact ⟨hk, fun _ _ h => h, hE.size, fun b hb _ => hold b hb, fun r b c k hr => .inr ⟨r, c, k, hr⟩, hE.os, hE.tape, hE.output, hE.drawn, fun b i hs => by
   rcases hin b i hs with h | h
   ·exact .inl h
   ·exact .inr (.inl h)⟩
 ·refine ⟨hi.len, fun r o b c k g1 g2 => (hi.obj r o b c k g1 g2).mono hk (fun _ _ h => h) (fun hl => hold b (hi.lt r o b c k g1 hl g2)), fun r o b c k g1 hl g => Nat.lt_of_lt_of_le (hi.lt r o b c k g1 hl g) hE.size, hi.inj, fun r o b c k i g1 l1 g2 hs => ?_, hlt, hi.gl.mono hk, fun r b c k g => Nat.lt_of_lt_of_le (hi.dl r b c k g) hE.size⟩
  rcases hin b i hs with h | h
  ·exact hi.own r o b c k i g1 l1 g2 h
  ·have := hi.lt r o b c k g1 l1 g2; omega
variable {d d' : D}
theorem freed_frz {S : Nat → Nat → Prop} {w : World} {β : Blocks} {h : List AObj} (hd : d.freed = true) (ha : argP h d = some d') (hr : RelD S β w v d) : RelD S [] w v d' := by
 cases d with
 | v x =>
  simp only [argP, frz, Option.map_some, Option.some.injEq] at ha
  subst ha
  exact .v _ _ hr.of_v.plainT
 | tsl t es =>
  simp only [argP, frz, Option.map_some, Option.some.injEq] at ha
  subst ha
  exact .v _ _ hr.unt.of_v
 | vptr cs =>
  simp only [argP, Option.some.injEq] at ha
  subst ha
  cases hr with
  | vptr b off _ vals hs hr => exact .vptr b off cs vals hs hr
 | _ => cases hd
theorem argP_own {S : Nat → Nat → Prop} {w : World} {β : Blocks} {h : List AObj} (hi : HInv S β w h) (ha : argP h d = some d') (hr : RelD S β w v d) : RelD (withOwn S β h) [] w v d' := by
 unfold argP at ha
 split at ha
 ·cases ha
  cases hr with
  | vptr b off _ vals hs hr => exact .vptr b off _ vals (fun j hj => ⟨.inl (hs j hj).1, (hs j hj).2⟩) (fun j x hx => (hr j x hx).mono (keeps_own S β h w))
 ·obtain ⟨x, hx, rfl⟩ := zB.1 ha
  exact .v _ _ (frz_sound hi 6 _ _ _ hx hr)
variable {ds xs : List D} {vs : Array Value}
theorem args_own {S : Nat → Nat → Prop} {β : Blocks} {w : World} {h : List AObj} (hi : HInv S β w h) (hx : allM (argP h) ds = some xs) (hr : RelL S β w vs ds) : RelL (withOwn S β h) [] w vs xs := by
 obtain ⟨a1, a2⟩ := allM_spec hx
 refine ⟨by simp [a1, hr.1], fun i v d hv hd => ?_⟩
 have hlt := yE hd
 have hd' := zA (l := ds) (i := i) om
 exact argP_own hi (a2 i _ d hd' hd) (hr.2 i v _ hv hd')
theorem args_freed {S : Nat → Nat → Prop} {β : Blocks} {w : World} {h : List AObj} (hx : allM (argP h) ds = some xs) (hp : ds.all D.freed = true) (hr : RelL S β w vs ds) : RelL S [] w vs xs := by
 obtain ⟨a1, a2⟩ := allM_spec hx
 refine ⟨by simpa [a1] using hr.1, fun i v d hv hd => ?_⟩
 have hlt := yE hd
 have hd' := zA (l := ds) (i := i) om
 exact freed_frz (zZ.1 hp _ (zE hd')) (a2 i _ d hd' hd) (hr.2 i v _ hv hd')
theorem flat_cells {y : V} (hx : x.flat = true) (hy : y ∈ x.cells) : y.flat = true := by
 cases x with
 | agg cs =>
  simp only [V.flat, zZ] at hx
  have := hx y hy
  cases y <;> first | rfl | exact this | skip
  ·rename_i ds'
   simp only [V.flat, zZ] at this ⊢
   intro z hz
   have := this z hz
   cases z <;> first | rfl | exact this | cases this
  ·cases this
 | _ => simp [V.cells] at hy; subst hy; exact hx
def lentOk : AObj → Bool
 | .cells cs => cs.all D.isV
 | .tok _ _ => true
 | _ => false
structure Lent (h : List AObj) (refs : List (Option Nat)) : Prop where
 ok : ∀ (j q : Nat), refs[j]? = some (some q) → ∃ o, h[q]? = some o ∧ lentOk o = true
 nd : ∀ (j j' q : Nat), refs[j]? = some (some q) → refs[j']? = some (some q) → j = j'
def blOf (β : Blocks) (w : World) (refs : List (Option Nat)) : Blocks := refs.map fun
 | none => (w.heap.size, 0, 0)
 | some q => β.getD q (w.heap.size, 0, 0)
theorem Lent.pad {h : List AObj} {refs : List (Option Nat)} (hL : Lent h refs) : Lent h (refs ++ [none]) := by
 refine ⟨fun j q' hj => ?_, fun j j' q' hj hj' => ?_⟩
 ·rcases (yF _ _ _ _).1 hj with ⟨g, _⟩ | ⟨_, g⟩
  ·exact hL.ok j q' g
  ·cases g
 ·rcases (yF _ _ _ _).1 hj with ⟨g, _⟩ | ⟨e, g⟩ <;> rcases (yF _ _ _ _).1 hj' with ⟨g', _⟩ | ⟨e', g'⟩
  ·exact hL.nd j j' q' g g'
  ·cases g'
  ·cases g
  ·cases g
section
variable {S : Nat → Nat → Prop} {β : Blocks} {w : World} {h : List AObj} {refs : List (Option Nat)}
theorem Lent.bl (hi : HInv S β w h) (hL : Lent h refs) {j q : Nat} (hj : refs[j]? = some (some q)) : ∃ b c k, β[q]? = some (b, c, k) ∧ (blOf β w refs)[j]? = some (b, c, k) := by
 obtain ⟨o, h1, _⟩ := hL.ok j q hj
 have hq : q < β.length := by rw [hi.len]; exact yE h1
 obtain ⟨⟨b, c, k⟩, hb'⟩ : ∃ x, β[q]? = some x := ⟨_, zA hq⟩
 refine ⟨b, c, k, hb', ?_⟩
 unfold blOf
 rw [zG, hj]
 simp [List.getD, hb']
theorem Lent.lb (hi : HInv S β w h) (hL : Lent h refs) {j b c k : Nat} (hj : (blOf β w refs)[j]? = some (b, c, k)) : (refs[j]? = some none ∧ k = 0) ∨ ∃ q, refs[j]? = some (some q) ∧ β[q]? = some (b, c, k) := by
 have hj' := hj
 unfold blOf at hj
 rw [zG] at hj
 obtain ⟨x, hx, e⟩ := zB.1 hj
 cases x with
 | none => cases e; exact .inl ⟨hx, rfl⟩
 | some q =>
  obtain ⟨b', c', k', g1, g2⟩ := hL.bl hi hx
  rw [hj'] at g2
  cases g2
  exact .inr ⟨q, hx, g1⟩
end
theorem callD_sound {P : Program} {E : Env} {Γ : Calling} (hΓ : CSound DR P Γ) : CSound DR P (callD E Γ) := by
 intro f ds h d h' hd
 unfold callD at hd
 split at hd
 ·split at hd
  ·cases hd
  ·rename_i xs hxs
   split at hd
   ·cases hd
   ·rename_i d1 h1 hcall
    split at hd
    ·cases hd
    ·rename_i r hr
     split at hd
     ·rename_i hc
      cases hd
      obtain ⟨hex, hcalls⟩ := hΓ f _ [] d1 h1 hcall
      refine ⟨hex, fun S β w vs hrel hi => ?_⟩
      rw [Bool.or_eq_true, Bool.or_eq_true] at hc
      by_cases hp : ds.all D.freed = true
      ·refine (hcalls S [] w vs (args_freed hxs hp hrel) (hinv_nil hi.sb hi.gl)).mono ?_
       rintro e w1 ⟨v, S1, β1, rfl, hE, hI, hR⟩
       have hin : ∀ b i, withOwn S1 β1 h1 b i → S b i ∨ w.heap.size ≤ b := by
        intro b i hs
        rcases hs with hs | ⟨r, o, c, k, g1, g2, g3⟩
        ·rcases hE.stay b i hs with g | g | ⟨r, c, k, g⟩
         ·exact .inl g
         ·exact .inr g
         ·simp at g
        ·obtain ⟨k0, rfl⟩ := hI.kpos g1 g2 g3
         rcases hE.fresh r b c k0 g3 with g | ⟨r', c', k', g⟩
         ·exact .inr g
         ·simp at g
       obtain ⟨e1, e2⟩ := back_from (S' := withOwn S1 β1 h1) (h1 := h1) hi hE (fun _ _ h => h) (fun b i hs => .inl (hE.keeps b i hs).1) hin (own_sb hI)
       exact ⟨v, _, β, rfl, e1, e2, .v _ _ (frz_sound hI 6 _ _ _ hr hR)⟩
      ·by_cases hflat : r.flat = true
       ·refine (hcalls (withOwn S β h) [] w vs (args_own hi hxs hrel) (hinv_nil (own_sb hi) (hi.gl.mono fun _ _ h => ⟨.inl h, rfl⟩))).mono ?_
        rintro e w1 ⟨v, S1, β1, rfl, hE, hI, hR⟩
        obtain ⟨e1, e2⟩ := back_from (S' := S) (h1 := h1) hi hE (fun _ _ h => .inl h) (fun _ _ h => h) (fun _ _ h => .inl h) (fun b i hs => Nat.lt_of_lt_of_le (hi.sb b i hs) hE.size)
        exact ⟨v, S, β, rfl, e1, e2, .v _ _ ((frz_sound hI 6 _ _ _ hr hR).of_flat hflat)⟩
       ·have hown : ownFlat h1 d1 = true := by
         rcases hc with (hc | hc) | hc
         ·exact absurd hc hp
         ·exact absurd hc hflat
         ·exact hc
        refine (hcalls (withOwn S β h) [] w vs (args_own hi hxs hrel) (hinv_nil (own_sb hi) (hi.gl.mono fun _ _ h => ⟨.inl h, rfl⟩))).mono ?_
        rintro e w1 ⟨v, S1, β1, rfl, hE, hI, hR⟩
        -- the block that came back, and nothing else
        unfold ownFlat at hown
        split at hown
        ·rename_i r0 len
         split at hown
         ·rename_i k es hes
          rw [Bool.and_eq_true, decide_eq_true_eq] at hown
          obtain ⟨hle, hall⟩ := hown
          cases hR with
          | osl _ _ _ b c k' p cap _ hb hlen hp0 hcap =>
          simp only [Nat.zero_mul] at hp0
          subst hp0
          obtain ⟨rfl, o2, o3, o4, o5, cur, e, o6, o7, o8⟩ := hI.obj r0 _ b c k' hes hb
          have hbge : w.heap.size ≤ b := by
           obtain ⟨k0, rfl⟩ := hI.kpos hes rfl hb
           rcases hE.fresh r0 b c k0 hb with g | ⟨r', c', k', g⟩
           ·exact g
           ·simp at g
          obtain ⟨e1, e2⟩ := back_from (S' := fun b' i => S b' i ∨ b' = b) (h1 := h1) hi hE (fun _ _ h => .inl h) (fun _ _ h => .inl h) (fun b' i h => h.elim .inl (fun h => .inr (h ▸ hbge)))
           (fun b' i hs => hs.elim (fun hs => Nat.lt_of_lt_of_le (hi.sb b' i hs) hE.size) (fun h => h ▸ hI.lt r0 _ b c k hes rfl hb))
          refine ⟨_, _, β, rfl, e1, e2, .v _ _ ?_⟩
          have hr' : r = .sl .plain (es.take len) := by
           simp only [frz, hes, List.drop_zero] at hr
           rw [if_pos om] at hr
           exact (zC hr).symm
          subst hr'
          have hxl : (es.take len).length = len := by simp; omega
          have hsol : Solid k (es.take len) := by have := Solid.take_drop o5 0 len; simpa using this
          have hin : len * k ≤ cur.size := by rw [o7]; exact yD _ om
          refine .sl _ b 0 cap k len _ (fun q => cur.getD q undef) hxl.symm (by decide) (fun h => by cases h) (by rw [hcap, if_neg (by decide)]; omega) (by rw [hcap, if_neg (by decide)]; omega) hsol (fun i j hi' hj => ?_) (fun i j x c' hx' hy => ?_)
          ·have := mul_lt_of (k := k) hi' hj
           refine ⟨.inr rfl, ?_⟩
           simp only [Nat.zero_add]
           rw [cell_own o6, zD om]
           simp [Array.getD, show i * k + j < cur.size by omega]
          ·have hj := yE hy
           rw [(hsol i x hx').2] at hj
           have hi' := yE hx'
           rw [hxl] at hi'
           have := mul_lt_of (k := k) hi' hj
           have hxf := zZ.1 hall x (zE hx')
           rw [yA, if_pos hi'] at hx'
           refine RelV.of_flat (o8 i j x c' _ hx' hy ?_) (flat_cells hxf (zE hy))
           rw [zD om]
           simp [Array.getD, show i * k + j < cur.size by omega]
         ·cases hown
        ·rename_i fl es
         obtain ⟨e1, e2⟩ := back_from (S' := S) (h1 := h1) hi hE (fun _ _ h => .inl h) (fun _ _ h => h) (fun _ _ h => .inl h) (fun b i hs => Nat.lt_of_lt_of_le (hi.sb b i hs) hE.size)
         have he : es = [] := by simpa using hown
         subst he
         have hr' : r = .sl .plain [] := by
          simp only [frz, plainT, plainV] at hr
          exact (zC hr).symm
         subst hr'
         exact ⟨v, S, β, rfl, e1, e2, .v _ _ ((hR.of_v.plainS).of_flat rfl)⟩
        ·cases hown
     ·cases hd
 ·exact hΓ f ds h d h' hd
variable {DR : Prop}
section
variable {P : Program} {o : Oper} {a : Act} {w w' : World} {K : Act → World → Prop} {Q : Exit → Act → World → Prop}
theorem wp_of_value {v : Value} (h : (execOp a.eval o).run P w = .ok (.value v) w') (hk : K (a.put o.dst v) w') : o.wp P a w K Q := by
 unfold Oper.wp
 rw [h]
 exact hk
theorem wp_of_skip (h : (execOp a.eval o).run P w = .ok .skip w') (hk : K (a.put o.dst undef) w') : o.wp P a w K Q := by
 unfold Oper.wp
 rw [h]
 exact hk
theorem wp_of_enter {f : FuncId} {args : Array Value} (h : (execOp a.eval o).run P w = .ok (.enter f args) w') {R : Value → World → Prop}
  (hc : Calls P f args w' fun e w'' => ∃ v, e = .returned v ∧ R v w'') (hk : ∀ v w'', R v w'' → K (a.put o.dst v) w'') : o.wp P a w K Q := by
 unfold Oper.wp
 rw [h, Oper.upon_enter]
 refine hc.mono ?_
 rintro e w'' ⟨v, rfl, hR⟩
 exact hk v w'' hR
end
variable {α : Type} {x : Array α}
theorem size_two (h : x.size = 2) : ∃ a b, x = #[a, b] := by
 obtain ⟨l⟩ := x
 match l, h with
 | [a, b], _ => exact ⟨a, b, rfl⟩
theorem size_three (h : x.size = 3) : ∃ a b c, x = #[a, b, c] := by
 obtain ⟨l⟩ := x
 match l, h with
 | [a, b, c], _ => exact ⟨a, b, c, rfl⟩
variable {S : Nat → Nat → Prop} {β : Blocks} {ρ : Operand → D}
theorem relO_map {w : World} {a : Act} (hρ : ∀ x, RelD S β w (a.eval x) (ρ x)) (x : Option Operand) : RelO S β w (x.map a.eval) (x.map ρ) := by
 cases x with
 | none => trivial
 | some x => exact hρ x
theorem relL_map {w : World} {a : Act} (hρ : ∀ x, RelD S β w (a.eval x) (ρ x)) (xs : Array Operand) : RelL S β w (xs.map a.eval) (argsD ρ xs.toList) := by
 refine ⟨by simp [argsD], fun i v d hv hd => ?_⟩
 rw [Array.getElem?_map] at hv
 simp only [argsD, zG] at hd
 obtain ⟨x, hx, rfl⟩ := zB.1 hv
 obtain ⟨y, hy, rfl⟩ := zB.1 hd
 have : x = y := by
  have h1 : xs.toList[i]? = some x := by simpa using hx
  rw [h1] at hy; exact zC hy
 subst this
 exact hρ x
theorem relL_append {w : World} {a b : Array Value} {as bs : List D} (h : RelL S β w a as) (g : RelL S β w b bs) : RelL S β w (a ++ b) (as ++ bs) := by
 refine ⟨by simp [h.1, g.1], fun i v d hv hd => ?_⟩
 rw [Array.getElem?_append] at hv
 rw [List.getElem?_append] at hd
 split at hv
 ·rename_i hlt
  rw [if_pos (by rw [← h.1]; exact hlt)] at hd
  exact h.2 i v d hv hd
 ·rename_i hlt
  rw [if_neg (by rw [← h.1]; exact hlt), ← h.1] at hd
  exact g.2 _ v d hv hd
variable {f : FuncId}
theorem run_callFunc {P : Program} (h : Is P f) (args : Array Value) (w : World) : (callFunc f args).run P w = .ok (.enter f args) w := by
 obtain ⟨fn, h1, h2, h3⟩ := h
 unfold callFunc
 simp only [Sem.run_bind, run_program, Result.andThen_ok, h1, h3, Bool.false_eq_true, if_false]
 have : fn.body.isNone = false := by cases hb : fn.body <;> simp_all
 simp only [this, Bool.false_eq_true, if_false, Sem.run_pure]
variable {d : D} {h : List AObj}
theorem sliceD_nil {T : Nat → Option TI} {t : Nat} {x : D} {lo hi mx : Option D} (hd : sliceD T [] t x lo hi mx = some d) : sliceD T h t x lo hi mx = some d := by
 unfold sliceD at hd ⊢
 split at hd
 ·cases hd
 ·rename_i ti hti
  split at hd
  ·exact hd
  ·exact hd
  ·rename_i e r off len full hk
   split at hd
   ·rename_i l h' m k hb hs
    have : shapeOk [] r k = false := rfl
    rw [this] at hd
    cases hd
   ·cases hd
  ·split at hd
   ·simp at hd
   ·cases hd
  ·cases hd
theorem cloOf_sound {w : World} {v : Value} {x1 x2 : List D} (h : cloOf d = some (f, x1, x2)) (hv : RelD S β w v d) :
  ∃ first captured, v = .func (.func f) first captured ∧ RelL S β w first x1 ∧ RelL S β w captured x2 := by
 have nilL : RelL S β w #[] [] := ⟨rfl, fun i v d hv => by simp at hv⟩
 unfold cloOf at h
 split at h
 ·cases h
  cases hv.of_v
  exact ⟨#[], #[], rfl, nilL, nilL⟩
 ·rename_i g caps
  cases h
  cases hv.of_v with
  | clo _ captured _ q hl hp hc hs hr =>
  refine ⟨#[], captured, rfl, nilL, by simpa using hl, fun i v d hv hd => ?_⟩
  rw [zG] at hd
  obtain ⟨x, hx, rfl⟩ := zB.1 hd
  have hlt := yE hx
  have h1 := hp i v hv
  have h2 := hc i x hx
  subst h1
  subst h2
  exact .vptr _ _ _ (q i).2.2.2 (fun j hj => hs i j hlt hj) (fun j y hy => hr i j y hlt hy)
 ·cases h
  cases hv with
  | func _ first captured _ _ hl hl' hr hr' => exact ⟨first, captured, rfl, ⟨hl, hr⟩, ⟨hl', hr'⟩⟩
 ·cases h
theorem ares_sound {P : Program} {E : Env} {Γ : Calling} (hT : ∀ t i, E.T t = some i → tiOf P t = some i) (hΓ : CSound DR P Γ) (o : Oper) {w : World} {h' : List AObj} {a : Act}
  (hρ : ∀ x, RelD S β w (a.eval x) (ρ x)) (hi : HInv S β w h) (hd : ares E Γ o.op ρ h = some (d, h')) {K : Act → World → Prop} {Q : Exit → Act → World → Prop}
  (hK : ∀ S' β' w' v, Ext DR S β w S' β' w' → HInv S' β' w' h' → RelD S' β' w' v d → K (a.put o.dst v) w') : o.wp P a w K Q := by
 -- a value out of memory as it stands
 have same : ∀ {v : Value} (hrun : (execOp a.eval o).run P w = .ok (.value v) w) (hh : h' = h) (hv : RelD S β w v d), o.wp P a w K Q := by
  intro v hrun hh hv
  subst hh
  exact wp_of_value hrun (hK S β w v (Ext.refl _ _ _) hi hv)
 obtain ⟨dst, op, type, pos, after, guard⟩ := o
 dsimp only at hd hK same
 cases op <;> simp only [ares] at hd <;> try (cases hd; done)
 case move x =>
  obtain ⟨rfl, rfl⟩ := zM (zC hd)
  exact same (v := a.eval x) rfl rfl (hρ x)
 case assign x =>
  obtain ⟨rfl, rfl⟩ := zM (zC hd)
  exact same (v := a.eval x) rfl rfl (hρ x)
 case pick c x y =>
  split at hd
  ·rename_i t ht
   obtain ⟨rfl, rfl⟩ := zM (zC hd)
   have hc := hρ c
   rw [ht] at hc
   generalize hce : a.eval c = vc at hc
   cases hc.of_v
   refine same (v := if t then a.eval x else a.eval y) (by simp [execOp, hce, asBool]) rfl ?_
   cases t
   ·exact hρ y
   ·exact hρ x
  ·cases hd
 case alloc e =>
  split at hd
  ·rename_i i hie
   split at hd
   ·rename_i hm
    obtain ⟨rfl, rfl⟩ := zM (zC hd)
    obtain ⟨info, desc, z, g1, g2, g3, g4, g5, g6, g7, g8, _⟩ := tiOf_spec (hT _ _ hie)
    have hz : RelD S β w z (.v i.zero) := .v _ _ (ofValue_rel g4)
    obtain ⟨β', e1, e2, e3⟩ := box_own (DR := DR) hi e z (.v i.zero) (ofValue_solid g4) (by simpa [D.cells] using hm) hz
    refine wp_of_value (v := .pointer (some ⟨w.heap.size, 0, none⟩)) (w' := w.alloc (.cells z.cells e)) ?_ (hK S β' _ _ e1 e2 e3)
    simp [execOp, Instr.alloc, zeroValue, run_typeInfo g1, g3, newVar, newRow]
   ·cases hd
  ·cases hd
 case box e x =>
  split at hd
  ·rename_i hc
   rw [Bool.and_eq_true, decide_eq_true_eq] at hc
   obtain ⟨rfl, rfl⟩ := zM (zC hd)
   obtain ⟨β', e1, e2, e3⟩ := box_own (DR := DR) hi e (a.eval x) (ρ x) hc.1 hc.2 (hρ x)
   refine wp_of_value (v := .pointer (some ⟨w.heap.size, 0, none⟩)) (w' := w.alloc (.cells (a.eval x).cells e)) ?_ (hK S β' _ _ e1 e2 e3)
   simp [execOp, Instr.box, newVar, newRow]
  ·cases hd
 case build t parts =>
  split at hd
  ·rename_i i hti
   split at hd
   ·rename_i fs hk
    split at hd
    ·rename_i ps hps
     split at hd
     ·rename_i cs hcs
      obtain ⟨rfl, rfl⟩ := zM (zC hd)
      obtain ⟨u, h1, h2⟩ := build_sound hT (S := S) (β := β) (w := w) hti hk hps (parts.map fun (i, x) => (i, a.eval x)) (parts.toList.map fun p => (p.1, (ρ p.2).unt)) (by simp) (fun j p q hp hq => by
       rw [Array.getElem?_map] at hp
       simp only [zG] at hq
       obtain ⟨p', hp', rfl⟩ := zB.1 hp
       obtain ⟨q', hq', rfl⟩ := zB.1 hq
       have : p' = q' := by
        have h1 : parts.toList[j]? = some p' := by simpa using hp'
        rw [h1] at hq'; exact zC hq'
       subst this
       exact ⟨rfl, (hρ _).unt⟩) hcs
      exact same (v := u) (by simp [execOp, h1]) rfl h2
     ·cases hd
    ·cases hd
   ·cases hd
  ·cases hd
 case buildSlice t n parts =>
  split at hd
  ·rename_i ti hti
   split at hd
   ·rename_i e hk
    split at hd
    ·rename_i i hie
     split at hd
     ·rename_i hc
      obtain ⟨c1, c2, c3, c4⟩ := hc
      split at hd
      ·rename_i es hes
       split at hd
       ·rename_i hall
        have hpe := pures_spec hes
        have hlen : es.length = n := by
         have h1 := congrArg List.length hpe
         have h2 := congrArg List.length c1
         simp at h1 h2
         omega
        have hparts : ∀ (j : Nat) p x, (parts.map fun (i, x) => (i, a.eval x))[j]? = some p → es[j]? = some x → RelV S w p.2 x := fun j p x hp hx => by
         rw [Array.getElem?_map] at hp
         obtain ⟨p', hp', rfl⟩ := zB.1 hp
         have h1 : parts.toList[j]? = some p' := by simpa using hp'
         have h2 : (parts.toList.map fun p => (ρ p.2).unt)[j]? = some (ρ p'.2).unt := by simp only [zG, h1, Option.map_some]
         rw [hpe, zG, hx] at h2
         have h3 : (ρ p'.2).unt = .v x := (zC h2).symm
         have := (hρ p'.2).unt
         rw [h3] at this
         exact this.of_v
        split at hd
        ·split at hd
         ·rename_i hn0
          obtain ⟨rfl, rfl⟩ := zM (zC hd)
          obtain ⟨v, w', β', h1, e1, e2, e3⟩ := buildSliceO_sound hT hi hti hk hie c2 c3 hn0 (parts.map fun (i, x) => (i, a.eval x)) (by simpa [Function.comp_def] using c1) hlen c4 hparts hall
          exact wp_of_value (by simp [execOp, h1]) (hK S β' w' v e1 e2 e3)
         ·cases hd
        ·obtain ⟨rfl, rfl⟩ := zM (zC hd)
         obtain ⟨v, w', S', h1, e1, e2, e3⟩ := buildSlice_sound hT hi hti hk hie c2 c3 (parts.map fun (i, x) => (i, a.eval x)) (by simpa [Function.comp_def] using c1) hlen c4 hparts hall
         exact wp_of_value (by simp [execOp, h1]) (hK S' β w' v e1 e2 (.v _ _ e3.mapPlain))
       ·cases hd
      ·cases hd
     ·cases hd
    ·cases hd
   ·cases hd
  ·cases hd
 case load t x =>
  split at hd
  ·rename_i i hti
   obtain ⟨y, hy, he⟩ := zB.1 hd
   obtain ⟨rfl, rfl⟩ := zM he
   obtain ⟨u, h1, h2⟩ := loadD_sound hi (hT _ _ hti) hy (hρ x)
   exact same (v := u) (by simp [execOp, h1]) rfl h2
  ·cases hd
 case store t x y =>
  split at hd
  ·rename_i i hti
   obtain ⟨h2, hh2, he⟩ := zB.1 hd
   obtain ⟨rfl, rfl⟩ := zM he
   obtain ⟨w', h1, e1, e2⟩ := storeD_sound hi (hT _ _ hti) hh2 (hρ x) (hρ y).into
   exact wp_of_skip (w' := w') (by simp [execOp, h1]) (hK S β w' undef e1 e2 (.v _ _ (.tuple _ _ rfl (fun i v x hv => by simp at hv))))
  ·cases hd
 case nilCheck x =>
  have hx := hρ x
  split at hd
  ·rename_i r off hr
   obtain ⟨rfl, rfl⟩ := zM (zC hd)
   rw [hr] at hx
   generalize hve : a.eval x = v at hx
   cases hx with
   | ptr r off b c k h => exact same (by simp [execOp, hve]) rfl (.ptr r off b c k h)
  ·rename_i r i off hr
   obtain ⟨rfl, rfl⟩ := zM (zC hd)
   rw [hr] at hx
   generalize hve : a.eval x = v at hx
   cases hx with
   | eptr r i off b c k p h hp => exact same (by simp [execOp, hve]) rfl (.eptr r i off b c k p h hp)
  ·rename_i cs hr
   obtain ⟨rfl, rfl⟩ := zM (zC hd)
   rw [hr] at hx
   generalize hve : a.eval x = v at hx
   cases hx with
   | vptr b off _ vals hs hr => exact same (by simp [execOp, hve]) rfl (.vptr b off _ vals hs hr)
  ·rename_i cs hr
   obtain ⟨rfl, rfl⟩ := zM (zC hd)
   rw [hr] at hx
   generalize hve : a.eval x = v at hx
   cases hx.of_v with
   | ptr b off _ vals hs hr => exact same (by simp [execOp, hve]) rfl (.v _ _ (.ptr b off _ vals hs hr))
  ·rename_i f hr
   obtain ⟨rfl, rfl⟩ := zM (zC hd)
   rw [hr] at hx
   generalize hve : a.eval x = v at hx
   cases hx.of_v
   exact same (by simp [execOp, hve]) rfl (.v _ _ (.fn f))
  ·rename_i f x1 x2 hr
   obtain ⟨rfl, rfl⟩ := zM (zC hd)
   rw [hr] at hx
   generalize hve : a.eval x = v at hx
   cases hx with
   | func f first captured _ _ hl hl' hr hr' => exact same (by simp [execOp, hve]) rfl (.func f first captured _ _ hl hl' hr hr')
  ·cases hd
 case binOp bo t x y yt =>
  obtain ⟨r, hr, he⟩ := zB.1 hd
  obtain ⟨rfl, rfl⟩ := zM he
  obtain ⟨v, h1, h2⟩ := binD_sound hT hr (hρ x).unt (hρ y).unt x y
  refine same (v := v) ?_ rfl h2
  simp only [execOp]
  have h1' := h1
  simp only [Sem.run_bind] at h1' ⊢
  rw [h1']
  rfl
 case unOp uo t x =>
  obtain ⟨r, hr, he⟩ := zB.1 hd
  obtain ⟨rfl, rfl⟩ := zM he
  obtain ⟨v, h1, h2⟩ := unD_sound (P := P) hr (hρ x)
  exact same (v := v) (by simp [execOp, h1]) rfl h2
 case convert src dst' x =>
  obtain ⟨r, hr, he⟩ := zB.1 hd
  obtain ⟨rfl, rfl⟩ := zM he
  obtain ⟨v, h1, h2⟩ := convD_sound hT hr (hρ x).unt
  exact same (v := v) (by simp [execOp, h1]) rfl h2
 case makeSlice t l c =>
  obtain ⟨v, w', β', h1, e1, e2, e3⟩ := makeSlice_sound hT hi hd (hρ l) (hρ c)
  exact wp_of_value (by simp [execOp, h1]) (hK S β' w' v e1 e2 e3)
 case slice t x lo hi' mx =>
  split at hd
  ·obtain ⟨v, h1, e1, e2, e3⟩ := cutRow_sound hT hi hd (hρ x).unt (relO_map hρ lo) (relO_map hρ hi') (relO_map hρ mx)
   exact wp_of_value (by simp [execOp, h1]) (hK S β w v e1 e2 e3)
  ·obtain ⟨r, hr, he⟩ := zB.1 hd
   obtain ⟨rfl, rfl⟩ := zM he
   have hr : sliceD E.T h t (ρ x).unt (lo.map ρ) (hi'.map ρ) (mx.map ρ) = some r := by
    split at hr
    ·exact hr
    ·exact sliceD_nil hr
   obtain ⟨v, h1, h2⟩ := slice_sound hT hi hr (hρ x).unt (relO_map hρ lo) (relO_map hρ hi') (relO_map hρ mx)
   exact same (v := v) (by simp [execOp, h1]) rfl h2
 case fieldAddr t x f =>
  obtain ⟨r, hr, he⟩ := zB.1 hd
  obtain ⟨rfl, rfl⟩ := zM he
  obtain ⟨v, h1, h2⟩ := fieldAddr_sound hT hr (hρ x)
  exact same (v := v) (by simp [execOp, h1]) rfl h2
 case makeFunc fn first captured =>
  cases fn with
  | func f =>
   dsimp only at hd
   split at hd
   ·rename_i hfi
    obtain ⟨rfl, rfl⟩ := zM (zC hd)
    have h1 : first = #[] := by apply Array.ext'; simpa using hfi
    subst h1
    refine same (v := .func (.func f) #[] (captured.map a.eval)) (by simp [execOp, Instr.makeFunc]) rfl ?_
    obtain ⟨r1, r2⟩ := relL_map hρ captured
    exact .func f #[] _ [] _ rfl r1 (fun i v x hv => by simp at hv) r2
   ·cases hd
  | _ => cases hd
 case field t x f =>
  obtain ⟨r, hr, he⟩ := zB.1 hd
  obtain ⟨rfl, rfl⟩ := zM he
  obtain ⟨v, h1, h2⟩ := field_sound hT hr (hρ x)
  exact same (v := v) (by simp [execOp, h1]) rfl h2
 case indexAddr t x i =>
  obtain ⟨r, hr, he⟩ := zB.1 hd
  obtain ⟨rfl, rfl⟩ := zM he
  obtain ⟨v, h1, h2⟩ := indexAddr_sound hT hi hr (hρ x).unt (hρ i)
  exact same (v := v) (by simp [execOp, h1]) rfl h2
 case index t x i =>
  obtain ⟨r, hr, he⟩ := zB.1 hd
  obtain ⟨rfl, rfl⟩ := zM he
  obtain ⟨v, h1, h2⟩ := index_sound hT hr (hρ x) (hρ i)
  exact same (v := v) (by simp [execOp, h1]) rfl h2
 case extract t i =>
  have hx := hρ t
  split at hd
  ·rename_i vs hvs
   rw [hvs] at hx
   generalize hve : a.eval t = v at hx
   obtain ⟨y, hy, he⟩ := zB.1 hd
   obtain ⟨rfl, rfl⟩ := zM he
   cases hx.of_v with
   | tuple us _ hl hr =>
   have hlt := yE hy
   have hu : us[i]? = some us[i] := zD om
   exact same (v := us[i]) (by simp [execOp, hve, Instr.extract, hu]) rfl (.v _ _ (hr i _ y hu hy))
  ·rename_i vs hvs
   rw [hvs] at hx
   generalize hve : a.eval t = v at hx
   obtain ⟨y, hy, he⟩ := zB.1 hd
   obtain ⟨rfl, rfl⟩ := zM he
   cases hx with
   | tuple us _ hl hr =>
   have hlt := yE hy
   have hu : us[i]? = some us[i] := zD om
   exact same (v := us[i]) (by simp [execOp, hve, Instr.extract, hu]) rfl (hr i _ y hu hy)
  ·cases hd
 case makeMap t r =>
  split at hd
  ·rename_i i hti
   split at hd
   ·rename_i kt et hk
    obtain ⟨rfl, rfl⟩ := zM (zC hd)
    obtain ⟨β', e1, e2, e3⟩ := makeMap_sound (DR := DR) hi t
    refine wp_of_value (v := .map (some w.heap.size)) (w' := w.alloc (.map #[] 0)) ?_ (hK S β' _ _ e1 e2 e3)
    simp [execOp, Instr.makeMap, Result.andThen]
   ·cases hd
  ·cases hd
 case lookup t x i ok =>
  obtain ⟨r, hr, he⟩ := zB.1 hd
  obtain ⟨rfl, rfl⟩ := zM he
  obtain ⟨v, h1, h2⟩ := lookup_sound hT hi hr (hρ x) (hρ i)
  exact same (v := v) (by simp [execOp, h1]) rfl h2
 case mapUpdate t m i x =>
  obtain ⟨h2, hh2, he⟩ := zB.1 hd
  obtain ⟨rfl, rfl⟩ := zM he
  obtain ⟨w', h1, e1, e2⟩ := mapSet_sound hT hi hh2 (hρ m) (hρ i) (hρ x)
  exact wp_of_skip (w' := w') (by simp [execOp, h1]) (hK S β w' undef e1 e2 (.v _ _ (.tuple _ _ rfl (fun i v x hv => by simp at hv))))
 case insert t m i x =>
  obtain ⟨h2, hh2, he⟩ := zB.1 hd
  obtain ⟨rfl, rfl⟩ := zM he
  obtain ⟨w', h1, e1, e2⟩ := mapSet_sound hT hi hh2 (hρ m) (hρ i) (hρ x)
  exact wp_of_skip (w' := w') (by simp [execOp, h1]) (hK S β w' undef e1 e2 (.v _ _ (.tuple _ _ rfl (fun i v x hv => by simp at hv))))
 case call c =>
  obtain ⟨callee, args, argTypes⟩ := c
  dsimp only at hd
  have hargs := relL_map hρ args
  split at hd
  ·rename_i b
   unfold builtinD at hd
   split at hd
   ·-- len
    rename_i t x hts hxs
    have h1 : argTypes = #[t] := by apply Array.ext'; simpa using hts
    rw [hxs] at hargs
    have h2 : (args.map a.eval).size = 1 := hargs.1
    obtain ⟨v, hv⟩ : ∃ v, args.map a.eval = #[v] := by
     have := Array.size_eq_one_iff.1 h2; exact this
    have hvx := hargs.2 0 v x (by rw [hv]; rfl) rfl
    split at hd
    ·rename_i hm
     obtain ⟨y, hy, he⟩ := zB.1 hd
     obtain ⟨rfl, rfl⟩ := zM he
     obtain ⟨u, h3, h4⟩ := lenMap_sound hT hi (ty := type) hm hy hvx
     exact same (v := u) (by simp [execOp, resolve, invoke, builtin, h1, hv, h3]) rfl h4
    ·obtain ⟨y, hy, he⟩ := zB.1 hd
     obtain ⟨rfl, rfl⟩ := zM he
     obtain ⟨u, h3, h4⟩ := len_sound hT (ty := type) hy hvx.unt
     exact same (v := u) (by simp [execOp, resolve, invoke, builtin, h1, hv, h3]) rfl h4
   ·-- append
    rename_i t t' s x hts hxs
    split at hd
    ·rename_i e
     subst e
     have h1 : argTypes = #[t, t] := by apply Array.ext'; simpa using hts
     rw [hxs] at hargs
     have h2 : (args.map a.eval).size = 2 := hargs.1
     obtain ⟨v, u, hv⟩ : ∃ v u, args.map a.eval = #[v, u] := by
      have := size_two h2
      exact this
     have hv0 := hargs.2 0 v s (by rw [hv]; rfl) rfl
     have hv1 := hargs.2 1 u x (by rw [hv]; rfl) rfl
     obtain ⟨y, w', S', β', h3, e1, e2, e3⟩ := append_sound hT (ty := type) hi hd hv0 hv1
     exact wp_of_value (by simp [execOp, resolve, invoke, builtin, h1, hv, h3]) (hK S' β' w' y e1 e2 e3)
    ·have h1 : argTypes = #[t, t'] := by apply Array.ext'; simpa using hts
     rw [hxs] at hargs
     have h2 : (args.map a.eval).size = 2 := hargs.1
     obtain ⟨v, u, hv⟩ : ∃ v u, args.map a.eval = #[v, u] := size_two h2
     have hv0 := hargs.2 0 v s (by rw [hv]; rfl) rfl
     have hv1 := hargs.2 1 u x (by rw [hv]; rfl) rfl
     obtain ⟨y, w', S', β', h3, e1, e2, e3⟩ := append_str_sound hT (ty := type) hi hd hv0 hv1
     exact wp_of_value (by simp [execOp, resolve, invoke, builtin, h1, hv, h3]) (hK S' β' w' y e1 e2 e3)
   ·-- min
    rename_i ts k x k' y hts hxs
    obtain ⟨rfl, rfl⟩ := zM (zC hd)
    rw [hxs] at hargs
    have h2 : (args.map a.eval).size = 2 := hargs.1
    obtain ⟨v, u, hv⟩ : ∃ v u, args.map a.eval = #[v, u] := size_two h2
    have hv0 := (hargs.2 0 v _ (by rw [hv]; rfl) rfl).of_v
    have hv1 := (hargs.2 1 u _ (by rw [hv]; rfl) rfl).of_v
    cases hv0; cases hv1
    exact same (by simp [execOp, resolve, invoke, builtin, hv, run_min_int2]) rfl (.v _ _ (.int _ _))
   ·rename_i ts k x k' y hts hxs
    obtain ⟨rfl, rfl⟩ := zM (zC hd)
    rw [hxs] at hargs
    have h2 : (args.map a.eval).size = 2 := hargs.1
    obtain ⟨v, u, hv⟩ : ∃ v u, args.map a.eval = #[v, u] := size_two h2
    have hv0 := (hargs.2 0 v _ (by rw [hv]; rfl) rfl).of_v
    have hv1 := (hargs.2 1 u _ (by rw [hv]; rfl) rfl).of_v
    cases hv0; cases hv1
    exact same (by simp [execOp, resolve, invoke, builtin, hv, run_max_int2]) rfl (.v _ _ (.int _ _))
   ·rename_i ts k x k' y k'' z hts hxs
    obtain ⟨rfl, rfl⟩ := zM (zC hd)
    rw [hxs] at hargs
    have h2 : (args.map a.eval).size = 3 := hargs.1
    obtain ⟨v, u, t, hv⟩ : ∃ v u t, args.map a.eval = #[v, u, t] := size_three h2
    have hv0 := (hargs.2 0 v _ (by rw [hv]; rfl) rfl).of_v
    have hv1 := (hargs.2 1 u _ (by rw [hv]; rfl) rfl).of_v
    have hv2 := (hargs.2 2 t _ (by rw [hv]; rfl) rfl).of_v
    cases hv0; cases hv1; cases hv2
    exact same (by simp [execOp, resolve, invoke, builtin, hv, run_max_int3]) rfl (.v _ _ (.int _ _))
   ·-- clear
    rename_i t x hts hxs
    obtain ⟨h', hh', he⟩ := zB.1 hd
    obtain ⟨rfl, rfl⟩ := zM he
    have h1 : argTypes = #[t] := by apply Array.ext'; simpa using hts
    rw [hxs] at hargs
    have h2 : (args.map a.eval).size = 1 := hargs.1
    obtain ⟨v, hv⟩ : ∃ v, args.map a.eval = #[v] := by
     have := Array.size_eq_one_iff.1 h2; exact this
    have hvx := hargs.2 0 v x (by rw [hv]; rfl) rfl
    obtain ⟨w', h3, e1, e2⟩ := clear_sound (P := P) hT (ty := type) hi hh' hvx
    exact wp_of_value (w' := w') (by simp [execOp, resolve, invoke, builtin, h1, hv, h3]) (hK S β w' (.tuple #[]) e1 e2 (.v _ _ (.tuple _ _ rfl (fun i v x hv => by simp at hv))))
   ·-- copy
    rename_i t t' x y hts hxs
    have h1 : argTypes = #[t, t'] := by apply Array.ext'; simpa using hts
    rw [hxs] at hargs
    have h2 : (args.map a.eval).size = 2 := hargs.1
    obtain ⟨v, u, hv⟩ : ∃ v u, args.map a.eval = #[v, u] := size_two h2
    have hv0 := (hargs.2 0 v x (by rw [hv]; rfl) rfl).unt
    have hv1 := (hargs.2 1 u y (by rw [hv]; rfl) rfl).unt
    obtain ⟨z, w', h3, e1, e2, e3⟩ := copy_sound (P := P) (t' := t') hT (ty := type) hi hd hv0 hv1
    exact wp_of_value (by simp [execOp, resolve, invoke, builtin, h1, hv, h3]) (hK S β w' z e1 e2 e3)
   ·cases hd
  ·rename_i f0
   have hf := hρ f0
   split at hd
   ·rename_i f x1 x2 hf0
    split at hd
    ·cases hd
    obtain ⟨first, captured, hve, hl, hl'⟩ := cloOf_sound hf0 hf
    obtain ⟨hex, hc⟩ := callD_sound (E := E) hΓ f _ h d h' hd
    have hall := relL_append (relL_append (a := first) (as := x1) hl hargs) (b := captured) (bs := x2) hl'
    refine wp_of_enter (f := f) (args := first ++ args.map a.eval ++ captured) (w' := w) (by simp [execOp, resolve, Deferred.ofValue, invoke, hve, run_callFunc hex]) ((hc S β w _ hall hi).mono ?_) (R := fun v w'' => ∃ S' β', Ext DR S β w S' β' w'' ∧ HInv S' β' w'' h' ∧ RelD S' β' w'' v d) ?_
    ·rintro e w'' ⟨v, S', β', rfl, hr⟩
     exact ⟨v, rfl, S', β', hr⟩
    ·rintro v w'' ⟨S', β', e1, e2, e3⟩
     exact hK S' β' w'' v e1 e2 e3
   ·cases hd
  ·cases hd
end Go.Abs
