import Derived.Test.YtkmmaelmdioleaaGreatDoorAbsX
import Derived.Laws.BytesString
namespace Go.Abs
set_option linter.unusedVariables false
set_option linter.unusedSimpArgs false
set_option linter.unnecessarySimpa false
theorem eqFs_sound {P : Program} {T : Nat → Option TI} (hT : ∀ t i, T t = some i → tiOf P t = some i) {S : Nat → Nat → Prop} {w : World} (n m : Nat)
  (ih : ∀ (t : Nat) (x y : V) (b : Bool) (v u : Value), eqV T n t x y = some b → RelV S w v x → RelV S w u y → (Op.equalIn m t v u).run P w = .ok b w)
  (vs us : Array Value) (xs ys : List V) (hv : RelV S w (.agg vs) (.agg xs)) (hu : RelV S w (.agg us) (.agg ys)) :
  ∀ (fs : List Field) (b : Bool), (∀ f ∈ fs, f.name ≠ "_") → eqFs (eqV T n) T xs ys (fs.map fun f => (f.offset, f.type)) = some b → (Op.eqFields m vs us fs).run P w = .ok b w
 | [], b, _, h => by simp [eqFs] at h; subst h; rfl
 | f :: fs, b, hn, h => by
  simp only [List.map_cons, eqFs] at h
  split at h
  ·cases h
  ·rename_i i hi
   split at h
   ·rename_i a c ha hc
    split at h
    ·rename_i p q hp hq
     cases h
     have hpart : ∀ (ws : Array Value) (zs : List V) (z : V), RelV S w (.agg ws) (.agg zs) → (cut zs f.offset i.size).bind (mkOfV i.kind.isAgg) = some z → ∃ r, (part f.type ws f.offset).run P w = .ok r w ∧ RelV S w r z := by
      intro ws zs z hw hz
      cases hw with
      | agg ws zs hl hr =>
      obtain ⟨r, h1, h2⟩ := part_sound (S := S) (β := []) (w := w) (hT _ _ hi) (vs := ws) (cs := zs.map .v) (by simpa using hl) (fun j v x hv hx => by
       simp only [List.getElem?_map] at hx
       obtain ⟨y, hy, rfl⟩ := Option.map_eq_some_iff.1 hx
       exact .v _ _ (hr j v y hv hy)) (off := f.offset) (d := .v z) (by rw [mkOf_cut_map, hz]; rfl)
      exact ⟨r, h1, h2.of_v⟩
     obtain ⟨ra, e1, e2⟩ := hpart vs xs a hv ha
     obtain ⟨rc, e3, e4⟩ := hpart us ys c hu hc
     have e5 := ih f.type a c p ra rc hp e2 e4
     have e6 := eqFs_sound hT n m ih vs us xs ys hv hu fs q (fun g hg => hn g (List.mem_cons_of_mem _ hg)) hq
     unfold Op.eqFields
     rw [if_pos (hn f List.mem_cons_self)]
     simp only [Sem.run_bind, e1, e3, e5, Result.andThen_ok, Sem.run_ite, Sem.run_pure]
     cases p
     ·simp
     ·simp [e6]
    ·cases h
   ·cases h
theorem eqV_sound {P : Program} {T : Nat → Option TI} (hT : ∀ t i, T t = some i → tiOf P t = some i) {S : Nat → Nat → Prop} {w : World} : ∀ (n m : Nat), n ≤ m → ∀ (t : Nat) (x y : V) (b : Bool) (v u : Value),
  eqV T n t x y = some b → RelV S w v x → RelV S w u y → (Op.equalIn m t v u).run P w = .ok b w
 | 0, m, _, t, x, y, b, v, u, h, _, _ => by simp [eqV] at h
 | n + 1, m, hm, t, x, y, b, v, u, h, hv, hu => by
  obtain ⟨m, rfl⟩ : ∃ m', m = m' + 1 := ⟨m - 1, by omega⟩
  simp only [eqV] at h
  split at h
  ·cases h
  ·rename_i i hi
   obtain ⟨info, desc, z, g1, g2, g3, g4, g5, g6, g7, g8, g9⟩ := tiOf_spec (hT _ _ hi)
   split at h
   ·rename_i a c hk
    rw [hk] at g5
    have := tkOf_bool g5
    subst this
    cases hv; cases hu; cases h
    exact run_equalIn_bool w m t a c g2
   ·rename_i k0 k a k' c hk
    rw [hk] at g5
    have := tkOf_int g5
    subst this
    cases hv; cases hu
    split at h
    ·rename_i e
     subst e
     cases h
     exact run_equalIn_int w m t k _ a c g2
    ·cases h
   ·rename_i a c hk
    rw [hk] at g5
    have := tkOf_str g5
    subst this
    cases hv; cases hu; cases h
    exact run_equalIn_string w m t a c g2
   ·rename_i fs xs ys hk
    rw [hk] at g5
    obtain ⟨fields, rfl, rfl, hnames⟩ := tkOf_struct g5
    split at h
    ·rename_i hok
     obtain ⟨q1, q2⟩ := g9 hok
     have hf : P.fieldsOf t = fields := by simp [Program.fieldsOf, g2]
     cases hv with
     | agg vs _ hl hr =>
     cases hu with
     | agg us _ hl' hr' =>
     rw [run_equalIn_struct w m t vs us (by rw [hf]; exact g2) q2, hf]
     exact eqFs_sound hT n m (fun t x y b v u => eqV_sound hT n m (by omega) t x y b v u) vs us xs ys (.agg vs xs hl hr) (.agg us ys hl' hr') fields.toList b hnames h
    ·cases h
   ·cases h
theorem run_eq_of {P : Program} {w : World} {t : Nat} {v u : Value} {b : Bool} (h : (Op.equal t v u).run P w = .ok b w)
  (hne : ∀ op : BinOp, binOp op t v u = match op with
   | .eql => do pure (.bool (← Op.equal t v u))
   | .neq => do pure (.bool (!(← Op.equal t v u)))
   | op => binOp op t v u) (ox oy : Operand) (hg : ∀ op, (eqGuard op t ox oy v u).run P w = .ok () w) :
  ((do eqGuard .eql t ox oy v u; binOp .eql t v u : Sem Value).run P w = .ok (.bool b) w) ∧ ((do eqGuard .neq t ox oy v u; binOp .neq t v u : Sem Value).run P w = .ok (.bool (!b)) w) := by
 constructor
 ·rw [hne .eql]
  simp only [Sem.run_bind, hg, Result.andThen_ok, h, Sem.run_pure]
 ·rw [hne .neq]
  simp only [Sem.run_bind, hg, Result.andThen_ok, h, Sem.run_pure]
section
variable {P : Program} {w : World} {t : Nat}
theorem eqIn_slice (d e : Nat) (g : P.underlying t = some (.slice e)) (base : Option Addr) (n c : Nat) : (Op.equalIn (d + 1) t (.slice base n c) (.slice none 0 0)).run P w = .ok base.isNone w := by
 cases base <;> simp [Op.equalIn, run_underlying g]
theorem eqIn_pointer (d e : Nat) (g : P.underlying t = some (.pointer e)) (a : Option Addr) : (Op.equalIn (d + 1) t (.pointer a) (.pointer none)).run P w = .ok a.isNone w := by
 cases a <;> simp [Op.equalIn, run_underlying g]
theorem eqIn_map (d k e : Nat) (g : P.underlying t = some (.map k e)) (a : Option Nat) : (Op.equalIn (d + 1) t (.map a) (.map none)).run P w = .ok a.isNone w := by
 cases a <;> simp [Op.equalIn, run_underlying g]
theorem eqIn_nilFunc (d : Nat) {a b : Array TypeId} {c : Bool} (g : P.underlying t = some (.func a b c)) : (Op.equalIn (d + 1) t .nilFunc .nilFunc).run P w = .ok true w := by
 simp [Op.equalIn, run_underlying g]
theorem eqIn_func (d : Nat) {a b : Array TypeId} {c : Bool} (g : P.underlying t = some (.func a b c)) (f : Fn) (x y : Array Value) : (Op.equalIn (d + 1) t (.func f x y) .nilFunc).run P w = .ok false w := by
 simp [Op.equalIn, run_underlying g]
theorem intOp_sound {S : Nat → Nat → Prop} {op : BinOp} {k : IntKind} {a b : Int} {r : V} (h : intOp op k a b = some r) : ∃ v, (binOp op t (.int k a) (.int k b)).run P w = .ok v w ∧ RelV S w v r := by
 cases op <;> simp only [intOp] at h <;> (try (cases h; done))
 case quo =>
  split at h
  ·cases h
  ·rename_i hb
   cases h
   refine ⟨_, ?_, .int _ _⟩
   rw [binOp_quo]; unfold Op.intDiv; rw [if_neg hb]; rfl
 case rem =>
  split at h
  ·cases h
  ·rename_i hb
   cases h
   refine ⟨_, ?_, .int _ _⟩
   rw [binOp_rem]; unfold Op.intDiv; rw [if_neg hb]; rfl
 all_goals cases h
 case add => exact ⟨_, by rw [binOp_add]; rfl, .int _ _⟩
 case sub => exact ⟨_, by rw [binOp_sub]; rfl, .int _ _⟩
 case mul => exact ⟨_, by rw [binOp_mul]; rfl, .int _ _⟩
 case and => exact ⟨_, by rw [binOp_and]; rfl, .int _ _⟩
 case or => exact ⟨_, by rw [binOp_or]; rfl, .int _ _⟩
 case xor => exact ⟨_, by rw [binOp_xor]; rfl, .int _ _⟩
 case andNot => exact ⟨_, by rw [binOp_andNot]; rfl, .int _ _⟩
 case eql => exact ⟨_, by rw [binOp_eql]; rfl, .bool _⟩
 case neq => exact ⟨_, by rw [binOp_neq]; rfl, .bool _⟩
 case lss => exact ⟨_, by rw [binOp_lss]; rfl, .bool _⟩
 case leq => exact ⟨_, by rw [binOp_leq]; rfl, .bool _⟩
 case gtr => exact ⟨_, by rw [binOp_gtr]; rfl, .bool _⟩
 case geq => exact ⟨_, by rw [binOp_geq]; rfl, .bool _⟩
theorem shiftOp_sound {S : Nat → Nat → Prop} {op : BinOp} {k k' : IntKind} {a b : Int} {r : V} (h : shiftOp op k a b = some r) : ∃ v, (Op.shift op k a k' b).run P w = .ok v w ∧ RelV S w v r := by
 unfold shiftOp at h
 split at h
 ·cases h
 ·rename_i hb
  split at h
  ·cases h
   refine ⟨_, ?_, .int _ _⟩
   unfold Op.shift; rw [if_neg hb]; rfl
  ·cases h
   refine ⟨_, ?_, .int _ _⟩
   unfold Op.shift; rw [if_neg hb]; rfl
  ·cases h
theorem strOp_sound {S : Nat → Nat → Prop} {op : BinOp} {a b : ByteArray} {r : V} (h : strOp op a b = some r) : ∃ v, (Op.stringOp op a b).run P w = .ok v w ∧ RelV S w v r := by
 cases op <;> simp only [strOp] at h <;> (try (cases h; done))
 case add =>
  split at h
  ·rename_i hm
   cases h
   refine ⟨_, ?_, .str _⟩
   unfold Op.stringOp
   simp only
   rw [if_neg (by rw [IntKind.max_i64]; unfold maxLen at hm; omega)]
   rfl
  ·cases h
 all_goals
  cases h
  exact ⟨_, rfl, .bool _⟩
end
theorem eqD_sound {P : Program} {T : Nat → Option TI} (hT : ∀ t i, T t = some i → tiOf P t = some i) {S : Nat → Nat → Prop} {β : Blocks} {w : World} {t : Nat} {x y : D} {b : Bool} {v u : Value}
  (hint : ∀ k a k' c, ¬ (x = .v (.int k a) ∧ y = .v (.int k' c))) (hstr : ∀ a c, ¬ (x = .v (.str a) ∧ y = .v (.str c)))
  (h : eqD T t x y = some b) (hv : RelD S β w v x) (hu : RelD S β w u y) (ox oy : Operand) :
  ((do eqGuard .eql t ox oy v u; binOp .eql t v u : Sem Value).run P w = .ok (.bool b) w) ∧ ((do eqGuard .neq t ox oy v u; binOp .neq t v u : Sem Value).run P w = .ok (.bool (!b)) w) := by
 unfold eqD at h
 split at h
 ·cases h
 ·rename_i i hi
  obtain ⟨info, desc, z, g1, g2, g3, g4, g5, g6, g7, g8, g9⟩ := tiOf_spec (hT _ _ hi)
  split at h
  ·-- slices
   rename_i e hk
   rw [hk] at g5
   have := tkOf_slice g5
   subst this
   split at h
   ·have hu' : u = .slice none 0 0 := by
     have huu := hu.of_v
     generalize hes : V.sl .nil [] = vsl at huu
     cases huu <;> try (cases hes; done)
     ·rfl
     ·rename_i hn _ _; cases hes; exact absurd rfl hn
     ·rename_i hn _ _ _ _ _ _; cases hes; exact absurd rfl hn
    subst hu'
    have hv' : ∃ base n c, v = .slice base n c ∧ b = base.isNone := by
     unfold isNilS at h
     split at h
     ·rename_i fl es
      have hvv := hv.of_v
      generalize hes : V.sl fl es = vsl at hvv
      cases hvv <;> try (cases hes; done)
      ·rename_i hn; cases hes
       refine ⟨_, _, _, rfl, ?_⟩
       simp only at h
       cases b with
       | true => rfl
       | false => exact absurd h hn
      ·rename_i hn _ _; cases hes
       refine ⟨_, _, _, rfl, ?_⟩
       simp only at h
       cases b with
       | false => rfl
       | true => exact absurd h hn
      ·rename_i hlen hn _ _ _ _ _ _; cases hes
       refine ⟨_, _, _, rfl, ?_⟩
       cases es with
       | nil => simp only at h; cases b with
        | false => rfl
        | true => exact absurd h hn
       | cons _ _ => cases h; rfl
     ·cases h; cases hv; exact ⟨_, _, _, rfl, rfl⟩
     ·cases h
    obtain ⟨base, n, c, rfl, rfl⟩ := hv'
    refine run_eq_of ?_ (fun op => by cases op <;> simp [binOp]) ox oy (fun op => by simp [eqGuard_at_slice])
    exact eqIn_slice 9999 e g2 base n c
   ·cases h
  ·-- pointers
   rename_i e hk
   rw [hk] at g5
   have := tkOf_ptr g5
   subst this
   split at h
   ·cases hu.of_v
    have hv' : ∃ a, v = .pointer a ∧ b = a.isNone := by
     unfold isNilP at h
     split at h
     ·cases h; cases hv.of_v; exact ⟨_, rfl, rfl⟩
     ·cases h; cases hv; exact ⟨_, rfl, rfl⟩
     ·cases h; cases hv; exact ⟨_, rfl, rfl⟩
     ·cases h; cases hv; exact ⟨_, rfl, rfl⟩
     ·cases h; cases hv.of_v; exact ⟨_, rfl, rfl⟩
     ·cases h
    obtain ⟨a, rfl, rfl⟩ := hv'
    refine run_eq_of ?_ (fun op => by cases op <;> simp [binOp]) ox oy (fun op => by simp [eqGuard_at_pointer])
    exact eqIn_pointer 9999 e g2 a
   ·cases h
  ·-- maps
   rename_i k e hk
   rw [hk] at g5
   have := tkOf_map g5
   subst this
   split at h
   ·cases hu.of_v
    unfold isNilM at h
    split at h
    ·cases h; cases hv.of_v
     refine run_eq_of ?_ (fun op => by cases op <;> simp [binOp]) ox oy (fun op => by simp [eqGuard_at_map])
     exact eqIn_map 9999 k e g2 none
    ·cases h; cases hv.of_v
     refine run_eq_of ?_ (fun op => by cases op <;> simp [binOp]) ox oy (fun op => by simp [eqGuard_at_map])
     exact eqIn_map 9999 k e g2 (some _)
    ·cases h; cases hv
     refine run_eq_of ?_ (fun op => by cases op <;> simp [binOp]) ox oy (fun op => by simp [eqGuard_at_map])
     exact eqIn_map 9999 k e g2 (some _)
    ·cases h
   ·cases h
  ·-- functions
   rename_i hk
   rw [hk] at g5
   obtain ⟨a1, a2, a3, rfl⟩ := tkOf_func g5
   split at h
   ·cases hu.of_v
    unfold isNilF at h
    split at h
    ·cases h; cases hv.of_v
     refine run_eq_of ?_ (fun op => by cases op <;> simp [binOp]) ox oy (fun op => by simp [eqGuard_at_nilFunc])
     exact eqIn_nilFunc 9999 g2
    ·cases h; cases hv.of_v
     refine run_eq_of ?_ (fun op => by cases op <;> simp [binOp]) ox oy (fun op => by simp [eqGuard_at_func])
     exact eqIn_func 9999 g2 _ _ _
    ·cases h; cases hv
     refine run_eq_of ?_ (fun op => by cases op <;> simp [binOp]) ox oy (fun op => by simp [eqGuard_at_func])
     exact eqIn_func 9999 g2 _ _ _
    ·cases h
   ·cases h
  ·split at h
   ·rename_i x y
    have he := eqV_sound (S := S) (w := w) hT 8 10000 (by omega) t x y b v u h hv.of_v hu.of_v
    have he' : (Op.equal t v u).run P w = .ok b w := he
    simp only [eqV, hi] at h
    split at h
    ·cases hv.of_v; cases hu.of_v
     exact run_eq_of he' (fun op => by cases op <;> simp [binOp]) ox oy (fun op => by simp [eqGuard_at_bool])
    ·rename_i k a k' c _; exact absurd ⟨rfl, rfl⟩ (hint k a k' c)
    ·rename_i a c _; exact absurd ⟨rfl, rfl⟩ (hstr a c)
    ·split at h
     ·rename_i hok
      cases hv.of_v; cases hu.of_v
      exact run_eq_of he' (fun op => by cases op <;> simp [binOp]) ox oy (fun op => run_eqGuard_agg w op t ox oy _ _ (g9 hok).1)
     ·cases h
    ·cases h
   ·cases h
theorem binD_sound {P : Program} {T : Nat → Option TI} (hT : ∀ t i, T t = some i → tiOf P t = some i) {S : Nat → Nat → Prop} {β : Blocks} {w : World} {op : BinOp} {t : Nat} {x y d : D} {v u : Value}
  (h : binD T op t x y = some d) (hv : RelD S β w v x) (hu : RelD S β w u y) (ox oy : Operand) :
  ∃ r, ((do eqGuard op t ox oy v u; binOp op t v u : Sem Value).run P w = .ok r w) ∧ RelD S β w r d := by
 unfold binD at h
 split at h
 ·rename_i k a k' b
  cases hv.of_v; cases hu.of_v
  simp only [eqGuard_at_int, pure_bind]
  split at h
  ·obtain ⟨r, hr, rfl⟩ := Option.map_eq_some_iff.1 h
   obtain ⟨v, h1, h2⟩ := shiftOp_sound (P := P) (S := S) (w := w) (k' := k') hr
   exact ⟨v, by rw [binOp_shl]; exact h1, .v _ _ h2⟩
  ·obtain ⟨r, hr, rfl⟩ := Option.map_eq_some_iff.1 h
   obtain ⟨v, h1, h2⟩ := shiftOp_sound (P := P) (S := S) (w := w) (k' := k') hr
   exact ⟨v, by rw [binOp_shr]; exact h1, .v _ _ h2⟩
  ·split at h
   ·rename_i e
    subst e
    obtain ⟨r, hr, rfl⟩ := Option.map_eq_some_iff.1 h
    obtain ⟨v, h1, h2⟩ := intOp_sound (P := P) (S := S) (w := w) (t := t) hr
    exact ⟨v, h1, .v _ _ h2⟩
   ·cases h
 ·rename_i a b
  cases hv.of_v; cases hu.of_v
  obtain ⟨r, hr, rfl⟩ := Option.map_eq_some_iff.1 h
  obtain ⟨v, h1, h2⟩ := strOp_sound (P := P) (S := S) (w := w) hr
  refine ⟨v, ?_, .v _ _ h2⟩
  simp only [eqGuard_at_string, pure_bind]
  cases op <;> first | exact h1 | (simp only [strOp] at hr; cases hr)
 ·rename_i x y hi hs
  split at h
  ·obtain ⟨b, hb, rfl⟩ := Option.map_eq_some_iff.1 h
   exact ⟨_, (eqD_sound hT (fun k a k' c hh => hi k a k' c hh.1 hh.2) (fun a c hh => hs a c hh.1 hh.2) hb hv hu ox oy).1, .v _ _ (.bool _)⟩
  ·obtain ⟨b, hb, rfl⟩ := Option.map_eq_some_iff.1 h
   exact ⟨_, (eqD_sound hT (fun k a k' c hh => hi k a k' c hh.1 hh.2) (fun a c hh => hs a c hh.1 hh.2) hb hv hu ox oy).2, .v _ _ (.bool _)⟩
  ·cases h
theorem unD_sound {P : Program} {S : Nat → Nat → Prop} {β : Blocks} {w : World} {op : UnOp} {x d : D} {v : Value} (h : unD op x = some d) (hv : RelD S β w v x) : ∃ r, (Op.unary op v).run P w = .ok r w ∧ RelD S β w r d := by
 unfold unD at h
 split at h
 ·cases h; cases hv.of_v; exact ⟨_, rfl, .v _ _ (.bool _)⟩
 ·cases h; cases hv.of_v; exact ⟨_, rfl, .v _ _ (.int _ _)⟩
 ·cases h
theorem bytesOfV_ints : ∀ {es : List V} {l : List UInt8}, bytesOfV es = some l → ∃ ns : List Int, es = ns.map (V.int .u8) ∧ ns.foldl (fun r n => r.push (UInt8.ofNat n.toNat)) ByteArray.empty = ⟨l.toArray⟩ := by
 have key : ∀ (es : List V) (l : List UInt8) (r : ByteArray), bytesOfV es = some l → ∃ ns : List Int, es = ns.map (V.int .u8) ∧ ns.foldl (fun r n => r.push (UInt8.ofNat n.toNat)) r = ⟨r.data ++ l.toArray⟩ := by
  intro es
  induction es with
  | nil => intro l r h; cases h; exact ⟨[], rfl, by simp⟩
  | cons x es ih =>
   intro l r h
   simp only [bytesOfV] at h
   split at h
   ·rename_i c cs hc hcs
    cases h
    cases x <;> simp only [byteV] at hc <;> try (cases hc; done)
    rename_i k n
    cases k <;> simp only at hc <;> try (cases hc; done)
    cases hc
    obtain ⟨ns, rfl, h2⟩ := ih cs (r.push (UInt8.ofNat n.toNat)) hcs
    refine ⟨n :: ns, rfl, ?_⟩
    rw [List.foldl_cons, h2]
    congr 1
    apply Array.ext'
    simp [ByteArray.push]
   ·cases h
 intro es l h
 obtain ⟨ns, h1, h2⟩ := key es l ByteArray.empty h
 exact ⟨ns, h1, by rw [h2]; congr 1; simp⟩
theorem convD_sound {P : Program} {T : Nat → Option TI} (hT : ∀ t i, T t = some i → tiOf P t = some i) {S : Nat → Nat → Prop} {β : Blocks} {w : World} {src dst : Nat} {x d : D} {v : Value}
  (h : convD T src dst x = some d) (hv : RelD S β w v x) : ∃ r, (convert src dst v).run P w = .ok r w ∧ RelD S β w r d := by
 unfold convD at h
 split at h
 ·rename_i si i k n hs hd
  obtain ⟨_, desc0, _, _, g0, _⟩ := tiOf_spec (hT _ _ hs)
  obtain ⟨info, desc, z, g1, g2, g3, g4, g5, g6, g7, g8, g9⟩ := tiOf_spec (hT _ _ hd)
  split at h
  ·rename_i k' hk
   rw [hk] at g5
   have := tkOf_int g5
   subst this
   cases h; cases hv.of_v
   exact ⟨_, by simp [convert, run_underlying g0, run_underlying g2, Conv.intToInt], .v _ _ (.int _ _)⟩
  ·cases h
 ·rename_i si i s hs hd
  obtain ⟨_, desc0, _, _, g0, _⟩ := tiOf_spec (hT _ _ hs)
  obtain ⟨info, desc, z, g1, g2, g3, g4, g5, g6, g7, g8, g9⟩ := tiOf_spec (hT _ _ hd)
  split at h
  ·rename_i hk
   rw [hk] at g5
   have := tkOf_str g5
   subst this
   cases h; cases hv.of_v
   exact ⟨.string s, by cases desc0 <;> simp [convert, run_underlying g0, run_underlying g2], .v _ _ (.str _)⟩
  ·cases h
 ·rename_i si i fl es hs hd
  obtain ⟨_, desc0, _, _, g0, _, _, g05, _⟩ := tiOf_spec (hT _ _ hs)
  obtain ⟨info, desc, z, g1, g2, g3, g4, g5, g6, g7, g8, g9⟩ := tiOf_spec (hT _ _ hd)
  split at h <;> try (cases h; done)
  rename_i e hk0 hk
  split at h <;> try (cases h; done)
  rename_i ei he
  split at h <;> try (cases h; done)
  rename_i hke
  obtain ⟨_, _, _, _, g02, _, _, g025, _⟩ := tiOf_spec (hT _ _ he)
  rw [hk0] at g05
  rw [hk] at g5
  rw [hke] at g025
  have d0 := tkOf_slice g05
  have d1 := tkOf_str g5
  have d2 := tkOf_int g025
  subst d0 d1 d2
  unfold strV at h
  cases hb : bytesOfV es with
  | none => rw [hb] at h; cases h
  | some l =>
   rw [hb] at h
   cases h
   refine ⟨.string ⟨l.toArray⟩, ?_, .v _ _ (.str _)⟩
   have hv' := hv.of_v
   cases hv' with
   | slnil => cases hb; rw [run_convert_bytes_string w src dst e _ _ _ g0 g02 g2]; rfl
   | slemp fl a cap h hf hm =>
    cases hb
    rw [run_convert_bytes_string w src dst e _ _ _ g0 g02 g2, run_bytesToString w a 0 cap [] (by simp [loadCells, loadCellsFrom])]
    rfl
   | sl fl b off cap k n es vals hn h hf hc hm hk hs' hr =>
    subst hn
    obtain ⟨ns, hns, hall⟩ := bytesOfV_ints hb
    rw [run_convert_bytes_string w src dst e _ _ _ g0 g02 g2, run_bytesToString w ⟨b, off, none⟩ es.length cap ns ?_, hall]
    have hcell : ∀ (j : Nat) (v : Value), (ns.map (Value.int .u8))[j]? = some v → w.cell? ((⟨b, off, none⟩ : Addr).add j) = some v := by
     intro j v hj
     rw [List.getElem?_map] at hj
     obtain ⟨m, hm', rfl⟩ := Option.map_eq_some_iff.1 hj
     have he : es[j]? = some (.int .u8 m) := by rw [hns, List.getElem?_map, hm']; rfl
     have hk1 : k = 1 := by rw [← (hk j _ he).2]; rfl
     subst hk1
     have h1 := (hs' j 0 (lt_of_getElem? he) (by omega)).2
     have h2 := hr j 0 _ _ he rfl
     simp only [Nat.mul_one, Nat.add_zero] at h1 h2
     rw [Addr.add_lit, h1]
     generalize vals j = u at h2
     cases h2
     rfl
    have hlen : (ns.map (Value.int .u8)).length = es.length := by rw [hns]; simp
    have := run_loadCells_list (P := P) w ⟨b, off, none⟩ (ns.map (Value.int .u8)) hcell
    rw [hlen] at this
    simpa using this
 ·cases h
end Go.Abs
