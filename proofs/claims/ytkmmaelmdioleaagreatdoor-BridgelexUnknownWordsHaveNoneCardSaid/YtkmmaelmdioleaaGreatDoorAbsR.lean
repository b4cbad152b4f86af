import Derived.Test.YtkmmaelmdioleaaGreatDoorAbsD
namespace Go.Abs
set_option linter.unusedVariables false
set_option linter.unusedSimpArgs false
set_option linter.unnecessarySimpa false
variable {DR : Prop}
theorem heap_alloc_old (w : World) (o : Obj) (i : Nat) (h : i < w.heap.size) : (w.alloc o).heap[i]? = w.heap[i]? := by
 show (w.heap.push o)[i]? = w.heap[i]?
 rw [Array.getElem?_push, if_neg (Nat.ne_of_lt h)]
def mapAt (w : World) (b : Nat) : Option (Array MapEntry × Nat) := match w.heap[b]? with
 | some (.map es c) => some (es, c)
 | _ => none
def look (w : World) (b i : Nat) : Option Value × Option (Array MapEntry × Nat) := (w.cell? ⟨b, i, none⟩, mapAt w b)
theorem look_of_block {w w' : World} {b i : Nat} (h : w'.heap[b]? = w.heap[b]?) : look w' b i = look w b i := by
 unfold look mapAt
 rw [World.cell?_of_block h, h]
theorem mapAt_some {w : World} {b n : Nat} {es : Array MapEntry} (h : mapAt w b = some (es, n)) : w.heap[b]? = some (.map es n) := by
 unfold mapAt at h
 split at h
 ·rename_i e c g
  cases h; exact g
 ·cases h
theorem mapAt_of {w : World} {b n : Nat} {es : Array MapEntry} (h : w.heap[b]? = some (.map es n)) : mapAt w b = some (es, n) := by
 unfold mapAt; rw [h]
def Rising (es : Array MapEntry) : Prop := ∀ (i : Nat) e, es[i]? = some e → e.born = i
inductive RelV (S : Nat → Nat → Prop) (w : World) : Value → V → Prop where
 | bool (b : Bool) : RelV S w (.bool b) (.bool b)
 | int (k : IntKind) (n : Int) : RelV S w (.int k n) (.int k n)
 | str (s : ByteArray) : RelV S w (.string s) (.str s)
 | nilptr : RelV S w (.pointer none) .nilptr
 | nilmap : RelV S w (.map none) .nilmap
 | nilfunc : RelV S w .nilFunc .nilfunc
 | nilif : RelV S w .nilIface .nilif
 | fn (f : FuncId) : RelV S w (.func (.func f) #[] #[]) (.fn f)
 | clo (f : FuncId) (captured : Array Value) (caps : List V) (q : Nat → Nat × Nat × List V × (Nat → Value)) (hl : captured.size = caps.length)
   (hp : ∀ (i : Nat) v, captured[i]? = some v → v = .pointer (some ⟨(q i).1, (q i).2.1, none⟩)) (hc : ∀ (i : Nat) x, caps[i]? = some x → x = .agg (q i).2.2.1)
   (hs : ∀ i j : Nat, i < caps.length → j < (q i).2.2.1.length → S (q i).1 ((q i).2.1 + j) ∧ w.cell? ⟨(q i).1, (q i).2.1 + j, none⟩ = some ((q i).2.2.2 j))
   (hr : ∀ (i j : Nat) y, i < caps.length → (q i).2.2.1[j]? = some y → RelV S w ((q i).2.2.2 j) y) : RelV S w (.func (.func f) #[] captured) (.clo f caps)
 | slnil (fl : SFlag) (h : fl.isNil ≠ some false) : RelV S w (.slice none 0 0) (.sl fl [])
 | slemp (fl : SFlag) (a : Addr) (cap : Nat) (h : fl.isNil ≠ some true) (hf : fl.isFull = true → cap = 0) (hm : cap ≤ maxLen) : RelV S w (.slice (some a) 0 cap) (.sl fl [])
 | sl (fl : SFlag) (b off cap k n : Nat) (es : List V) (vals : Nat → Value) (hn : n = es.length) (h : fl.isNil ≠ some true) (hf : fl.isFull = true → cap = n) (hc : n ≤ cap) (hm : cap ≤ maxLen)
   (hk : ∀ (i : Nat) (x : V), es[i]? = some x → x.solid = true ∧ x.cells.length = k)
   (hs : ∀ i j : Nat, i < n → j < k → S b (off + (i * k + j)) ∧ w.cell? ⟨b, off + (i * k + j), none⟩ = some (vals (i * k + j)))
   (hr : ∀ (i j : Nat) (x c : V), es[i]? = some x → x.cells[j]? = some c → RelV S w (vals (i * k + j)) c) : RelV S w (.slice (some ⟨b, off, none⟩) n cap) (.sl fl es)
 | agg (vs : Array Value) (cs : List V) (hl : vs.size = cs.length) (hr : ∀ (i : Nat) (v : Value) (x : V), vs[i]? = some v → cs[i]? = some x → RelV S w v x) : RelV S w (.agg vs) (.agg cs)
 | tuple (vs : Array Value) (cs : List V) (hl : vs.size = cs.length) (hr : ∀ (i : Nat) (v : Value) (x : V), vs[i]? = some v → cs[i]? = some x → RelV S w v x) : RelV S w (.tuple vs) (.tuple cs)
 | ptr (b off : Nat) (cells : List V) (vals : Nat → Value) (hs : ∀ j : Nat, j < cells.length → S b (off + j) ∧ w.cell? ⟨b, off + j, none⟩ = some (vals j))
   (hr : ∀ (j : Nat) (x : V), cells[j]? = some x → RelV S w (vals j) x) : RelV S w (.pointer (some ⟨b, off, none⟩)) (.ptr cells)
 | map (b : Nat) (es : Array MapEntry) (ks vs : List V) (hs : S b 0) (hm : mapAt w b = some (es, es.size)) (hb : Rising es) (hk : es.size = ks.length) (hv : es.size = vs.length)
   (hrk : ∀ (i : Nat) (e : MapEntry) (x : V), es[i]? = some e → ks[i]? = some x → RelV S w e.key x) (hrv : ∀ (i : Nat) (e : MapEntry) (x : V), es[i]? = some e → vs[i]? = some x → RelV S w e.val x) : RelV S w (.map (some b)) (.map ks vs)
abbrev Blocks := List (Nat × Nat × Nat)
inductive RelD (S : Nat → Nat → Prop) (β : Blocks) (w : World) : Value → D → Prop where
 | undef (v : Value) : RelD S β w v .undef
 | v (v : Value) (x : V) (h : RelV S w v x) : RelD S β w v (.v x)
 | ptr (r off b c k : Nat) (h : β[r]? = some (b, c, k)) : RelD S β w (.pointer (some ⟨b, off, none⟩)) (.ptr r off)
 | eptr (r i off b c k p : Nat) (h : β[r]? = some (b, c, k)) (hp : p = i * k + off) : RelD S β w (.pointer (some ⟨b, p, none⟩)) (.eptr r i off)
 | vptr (b off : Nat) (cells : List V) (vals : Nat → Value) (hs : ∀ j : Nat, j < cells.length → S b (off + j) ∧ w.cell? ⟨b, off + j, none⟩ = some (vals j))
   (hr : ∀ (j : Nat) (x : V), cells[j]? = some x → RelV S w (vals j) x) : RelD S β w (.pointer (some ⟨b, off, none⟩)) (.vptr cells)
 | map (r b c k : Nat) (h : β[r]? = some (b, c, k)) : RelD S β w (.map (some b)) (.map r)
 | osl (r off len b c k p cap : Nat) (full : Bool) (h : β[r]? = some (b, c, k)) (hb : off + len ≤ c) (hp : p = off * k) (hcap : cap = if full then len else c - off) :
   RelD S β w (.slice (some ⟨b, p, none⟩) len cap) (.osl r off len full)
 | tsl (t b c k n : Nat) (es : List V) (h : β[t]? = some (b, c, k)) (hn : n = es.length) (hs : ∀ (i : Nat) (x : V), es[i]? = some x → x.solid = true ∧ x.cells.length = k) (hv : RelV S w (.slice (some ⟨b, 0, none⟩) n c) (.sl .plain es)) : RelD S β w (.slice (some ⟨b, 0, none⟩) n c) (.tsl t es)
 | func (f : FuncId) (first captured : Array Value) (fs cs : List D) (hl : first.size = fs.length) (hl' : captured.size = cs.length)
   (hr : ∀ (i : Nat) (v : Value) (x : D), first[i]? = some v → fs[i]? = some x → RelD S β w v x)
   (hr' : ∀ (i : Nat) (v : Value) (x : D), captured[i]? = some v → cs[i]? = some x → RelD S β w v x) : RelD S β w (.func (.func f) first captured) (.func f fs cs)
 | agg (vs : Array Value) (cs : List D) (hl : vs.size = cs.length) (hr : ∀ (i : Nat) (v : Value) (x : D), vs[i]? = some v → cs[i]? = some x → RelD S β w v x) : RelD S β w (.agg vs) (.agg cs)
 | tuple (vs : Array Value) (cs : List D) (hl : vs.size = cs.length) (hr : ∀ (i : Nat) (v : Value) (x : D), vs[i]? = some v → cs[i]? = some x → RelD S β w v x) : RelD S β w (.tuple vs) (.tuple cs)
 | box (t : Nat) (v : Value) (d : D) (hr : RelD S β w v d) : RelD S β w (.iface t v) (.box t d)
def Keeps (S : Nat → Nat → Prop) (w : World) (S' : Nat → Nat → Prop) (w' : World) : Prop :=
 ∀ b i, S b i → S' b i ∧ look w' b i = look w b i
theorem Keeps.cell {S S' : Nat → Nat → Prop} {w w' : World} (h : Keeps S w S' w') {b i : Nat} (hs : S b i) : w'.cell? ⟨b, i, none⟩ = w.cell? ⟨b, i, none⟩ := congrArg Prod.fst (h b i hs).2
theorem Keeps.mapAt {S S' : Nat → Nat → Prop} {w w' : World} (h : Keeps S w S' w') {b i : Nat} (hs : S b i) : Abs.mapAt w' b = Abs.mapAt w b := congrArg Prod.snd (h b i hs).2
theorem RelV.mono {S S' : Nat → Nat → Prop} {w w' : World} (hk : Keeps S w S' w') {v : Value} {x : V} (h : RelV S w v x) : RelV S' w' v x := by
 induction h with
 | bool b => exact .bool b
 | int k n => exact .int k n
 | str s => exact .str s
 | nilptr => exact .nilptr
 | nilmap => exact .nilmap
 | nilfunc => exact .nilfunc
 | nilif => exact .nilif
 | fn f => exact .fn f
 | clo f captured caps q hl hp hc hs hr ih => exact .clo f captured caps q hl hp hc (fun i j hi hj => ⟨(hk _ _ (hs i j hi hj).1).1, (hk.cell (hs i j hi hj).1).trans (hs i j hi hj).2⟩) ih
 | slnil fl h => exact .slnil fl h
 | slemp fl a cap h hf hm => exact .slemp fl a cap h hf hm
 | sl fl b off cap k n es vals hn h hf hc hm hsol hs hr ih =>
  refine .sl fl b off cap k n es vals hn h hf hc hm hsol (fun i j hi hj => ?_) ih
  obtain ⟨h1, h2⟩ := hs i j hi hj
  exact ⟨(hk _ _ h1).1, (hk.cell h1).trans h2⟩
 | agg vs cs hl hr ih => exact .agg vs cs hl ih
 | tuple vs cs hl hr ih => exact .tuple vs cs hl ih
 | ptr b off cells vals hs hr ih => exact .ptr b off cells vals (fun j hj => ⟨(hk _ _ (hs j hj).1).1, (hk.cell (hs j hj).1).trans (hs j hj).2⟩) ih
 | map b es ks vs hs hm hb hkl hv hrk hrv ihk ihv => exact .map b es ks vs (hk _ _ hs).1 ((hk.mapAt hs).trans hm) hb hkl hv ihk ihv
def Glob (S : Nat → Nat → Prop) (w : World) : Prop := (∀ g cells, G0 g = some cells → ∀ (j : Nat) x, cells[j]? = some x → S g j ∧ ∃ v, w.cell? ⟨g, j, none⟩ = some v ∧ RelV S w v x) ∧ ∀ g j p, (j, p) ∈ GP g → S g j ∧ p (w.cell? ⟨g, j, none⟩)
theorem Glob.mono {S S' : Nat → Nat → Prop} {w w' : World} (h : Glob S w) (hk : Keeps S w S' w') : Glob S' w' := by
 refine ⟨fun g cells hg j x hx => ?_, fun g j p hg => ?_⟩
 ·obtain ⟨h1, v, h2, h3⟩ := h.1 g cells hg j x hx
  exact ⟨(hk g j h1).1, v, (hk.cell h1).trans h2, h3.mono hk⟩
 ·obtain ⟨h1, h2⟩ := h.2 g j p hg
  exact ⟨(hk g j h1).1, by rw [hk.cell h1]; exact h2⟩
theorem RelD.mono {S S' : Nat → Nat → Prop} {β β' : Blocks} {w w' : World} (hk : Keeps S w S' w') (hb : ∀ (r : Nat) x, β[r]? = some x → β'[r]? = some x) {v : Value} {d : D} (h : RelD S β w v d) : RelD S' β' w' v d := by
 induction h with
 | undef v => exact .undef v
 | v v x h => exact .v v x (h.mono hk)
 | ptr r off b c k h => exact .ptr r off b c k (hb _ _ h)
 | eptr r i off b c k p h hp => exact .eptr r i off b c k p (hb _ _ h) hp
 | vptr b off cells vals hs hr =>
  refine .vptr b off cells vals (fun j hj => ?_) (fun j x hx => (hr j x hx).mono hk)
  obtain ⟨h1, h2⟩ := hs j hj
  exact ⟨(hk _ _ h1).1, (hk.cell h1).trans h2⟩
 | map r b c k h => exact .map r b c k (hb _ _ h)
 | osl r off len b c k p cap full h hc hp hcap => exact .osl r off len b c k p cap full (hb _ _ h) hc hp hcap
 | tsl t b c k n es h hn hs hv => exact .tsl t b c k n es (hb _ _ h) hn hs (hv.mono hk)
 | func f first captured fs cs hl hl' hr hr' ih ih' => exact .func f first captured fs cs hl hl' ih ih'
 | agg vs cs hl hr ih => exact .agg vs cs hl ih
 | tuple vs cs hl hr ih => exact .tuple vs cs hl ih
 | box t v d hr ih => exact .box t v d ih
def ObjRel (S : Nat → Nat → Prop) (β : Blocks) (w : World) (b c k : Nat) : AObj → Prop
 | .cells cs => k = 1 ∧ c ≤ maxLen ∧ cs.length = c ∧ ∃ cur e, w.heap[b]? = some (.cells cur e (0, 0)) ∧ cur.size = c ∧
   ∀ (j : Nat) (v : Value) (d : D), cur[j]? = some v → cs[j]? = some d → RelD S β w v d
 | .grid k' cs => k' = k ∧ 0 < k ∧ c ≤ maxLen ∧ cs.length ≤ c * k ∧ ∃ cur e, w.heap[b]? = some (.cells cur e (0, 0)) ∧ cur.size = c * k ∧
   ∀ (j : Nat) (v : Value) (d : D), cur[j]? = some v → cs[j]? = some d → RelD S β w v d
 | .row k' es => k' = k ∧ 0 < k ∧ c ≤ maxLen ∧ es.length ≤ c ∧ (∀ (i : Nat) (x : V), es[i]? = some x → x.solid = true ∧ x.cells.length = k) ∧
   ∃ cur e, w.heap[b]? = some (.cells cur e (0, 0)) ∧ cur.size = c * k ∧
   ∀ (i j : Nat) (x y : V) (v : Value), es[i]? = some x → x.cells[j]? = some y → cur[i * k + j]? = some v → RelV S w v y
 | .tok k' n => k' = k ∧ 0 < k ∧ c ≤ maxLen ∧ n ≤ c ∧ ∃ cur e, w.heap[b]? = some (.cells cur e (0, 0)) ∧ cur.size = c * k
 | .map ks vs => k = 1 ∧ vs.length = ks.length ∧ ∃ es, w.heap[b]? = some (.map es es.size) ∧ Rising es ∧ es.size = ks.length ∧ (∀ (i : Nat) (e : MapEntry) (x : V), es[i]? = some e → ks[i]? = some x → RelV S w e.key x) ∧
   ∀ (i : Nat) (e : MapEntry) (d : D), es[i]? = some e → vs[i]? = some d → RelD S β w e.val d
 | .iter m since seen last => k = 1 ∧ ∃ mv, w.heap[b]? = some (.mapIter mv since seen.toArray last) ∧ RelD S β w (.map mv) m
 | .dead => True
def AObj.mut : AObj → Bool
 | .row _ _ | .cells _ | .grid _ _ | .map _ _ | .iter _ _ _ _ => true
 | _ => false
def AObj.room : AObj → Nat
 | .tok k n => n * k
 | _ => 0
theorem AObj.mut_room {o : AObj} (h : o.mut = true) : o.room = 0 := by cases o <;> first | rfl | cases h
theorem AObj.mut_live {o : AObj} (h : o.mut = true) : o.live = true := by cases o <;> first | rfl | cases h
theorem ObjRel.mono {S S' : Nat → Nat → Prop} {β β' : Blocks} {w w' : World} (hk : Keeps S w S' w') (hb : ∀ (r : Nat) x, β[r]? = some x → β'[r]? = some x) {b c k : Nat} {o : AObj}
  (hw : o.live = true → w'.heap[b]? = w.heap[b]?) (h : ObjRel S β w b c k o) : ObjRel S' β' w' b c k o := by
 cases o with
 | dead => trivial
 | cells cs =>
  obtain ⟨h1, h2, h3, cur, e, h4, h5, h6⟩ := h
  exact ⟨h1, h2, h3, cur, e, (hw rfl).trans h4, h5, fun j v d hv hd => (h6 j v d hv hd).mono hk hb⟩
 | grid k' cs =>
  obtain ⟨h1, h2, h3, h0, cur, e, h4, h5, h6⟩ := h
  exact ⟨h1, h2, h3, h0, cur, e, (hw rfl).trans h4, h5, fun j v d hv hd => (h6 j v d hv hd).mono hk hb⟩
 | tok k' n =>
  obtain ⟨h1, h2, h3, h4, cur, e, h6, h7⟩ := h
  exact ⟨h1, h2, h3, h4, cur, e, (hw rfl).trans h6, h7⟩
 | map ks vs =>
  obtain ⟨h1, h2, es, h3, h4, h5, h6, h7⟩ := h
  exact ⟨h1, h2, es, (hw rfl).trans h3, h4, h5, fun i e x he hx => (h6 i e x he hx).mono hk, fun i e d he hd => (h7 i e d he hd).mono hk hb⟩
 | iter m since seen last =>
  obtain ⟨h1, mv, h2, h3⟩ := h
  exact ⟨h1, mv, (hw rfl).trans h2, h3.mono hk hb⟩
 | row k' es =>
  obtain ⟨h1, h2, h3, h4, h5, cur, e, h6, h7, h8⟩ := h
  exact ⟨h1, h2, h3, h4, h5, cur, e, (hw rfl).trans h6, h7, fun i j x y v hx hy hv => (h8 i j x y v hx hy hv).mono hk⟩
structure HInv (S : Nat → Nat → Prop) (β : Blocks) (w : World) (h : List AObj) : Prop where
 len : β.length = h.length
 obj : ∀ (r : Nat) (o : AObj) (b c k : Nat), h[r]? = some o → β[r]? = some (b, c, k) → ObjRel S β w b c k o
 lt : ∀ (r : Nat) (o : AObj) (b c k : Nat), h[r]? = some o → o.live = true → β[r]? = some (b, c, k) → b < w.heap.size
 inj : ∀ (r r' : Nat) (o o' : AObj) (b c k c' k' : Nat), h[r]? = some o → o.live = true → h[r']? = some o' → o'.live = true → β[r]? = some (b, c, k) → β[r']? = some (b, c', k') → r = r'
 own : ∀ (r : Nat) (o : AObj) (b c k i : Nat), h[r]? = some o → o.live = true → β[r]? = some (b, c, k) → S b i → i < o.room
 sb : ∀ b i, S b i → b < w.heap.size
 gl : Glob S w
 dl : ∀ r b c k : Nat, β[r]? = some (b, c, k + 1) → b < w.heap.size
theorem HInv.kpos {S : Nat → Nat → Prop} {β : Blocks} {w : World} {h : List AObj} (hi : HInv S β w h) {r b c k : Nat} {o : AObj} (g1 : h[r]? = some o) (l1 : o.live = true) (g2 : β[r]? = some (b, c, k)) : ∃ k', k = k' + 1 := by
 have hob := hi.obj r o b c k g1 g2
 cases o <;> first | (cases l1; done) | exact ⟨0, hob.1⟩ | exact ⟨k - 1, by have := hob.2.1; omega⟩
structure Ext (DR : Prop) (S : Nat → Nat → Prop) (β : Blocks) (w : World) (S' : Nat → Nat → Prop) (β' : Blocks) (w' : World) : Prop where
 keeps : Keeps S w S' w'
 pre : ∀ (r : Nat) x, β[r]? = some x → β'[r]? = some x
 size : w.heap.size ≤ w'.heap.size
 rest : ∀ b, b < w.heap.size → (∀ r c k : Nat, β[r]? ≠ some (b, c, k + 1)) → w'.heap[b]? = w.heap[b]?
 fresh : ∀ r b c k : Nat, β'[r]? = some (b, c, k + 1) → w.heap.size ≤ b ∨ ∃ r' c' k' : Nat, β[r']? = some (b, c', k' + 1)
 os : w'.os = w.os
 tape : w'.tape = w.tape
 output : w'.output = w.output
 drawn : DR → w.drawn ≤ w'.drawn
 stay : ∀ b i, S' b i → S b i ∨ w.heap.size ≤ b ∨ ∃ r c k : Nat, β[r]? = some (b, c, k + 1)
theorem Ext.refl (S : Nat → Nat → Prop) (β : Blocks) (w : World) : Ext DR S β w S β w :=
 ⟨fun _ _ h => ⟨h, rfl⟩, fun _ _ h => h, Nat.le_refl _, fun _ _ _ => rfl, fun r b c k h => .inr ⟨r, c, k, h⟩, rfl, rfl, rfl, fun _ => by simp, fun _ _ h => .inl h⟩
theorem Ext.trans {S S' S'' : Nat → Nat → Prop} {β β' β'' : Blocks} {w w' w'' : World} (h : Ext DR S β w S' β' w') (g : Ext DR S' β' w' S'' β'' w'') : Ext DR S β w S'' β'' w'' where
 keeps b i hs := ⟨(g.keeps b i (h.keeps b i hs).1).1, (g.keeps b i (h.keeps b i hs).1).2.trans (h.keeps b i hs).2⟩
 pre r x hr := g.pre r x (h.pre r x hr)
 size := Nat.le_trans h.size g.size
 rest b hb hn := (g.rest b (Nat.lt_of_lt_of_le hb h.size) (fun r c k hr => by
  rcases h.fresh r b c k hr with h1 | ⟨r', c', k', h1⟩
  ·omega
  ·exact hn r' c' k' h1)).trans (h.rest b hb hn)
 fresh r b c k hr := by
  rcases g.fresh r b c k hr with h1 | ⟨r', c', k', h1⟩
  ·exact .inl (Nat.le_trans h.size h1)
  ·exact h.fresh r' b c' k' h1
 os := g.os.trans h.os
 tape := g.tape.trans h.tape
 output := g.output.trans h.output
 drawn hd := Nat.le_trans (h.drawn hd) (g.drawn hd)
 stay b i hs := by
  rcases g.stay b i hs with h1 | h1 | ⟨r, c, k, h1⟩
  ·exact h.stay b i h1
  ·exact .inr (.inl (Nat.le_trans h.size h1))
  ·rcases h.fresh r b c k h1 with h2 | h2
   ·exact .inr (.inl h2)
   ·exact .inr (.inr h2)
theorem Ext.drew (S : Nat → Nat → Prop) (β : Blocks) (w : World) : Ext DR S β w S β w.drew :=
 ⟨fun _ _ h => ⟨h, rfl⟩, fun _ _ h => h, Nat.le_refl _, fun _ _ _ => rfl, fun r b c k h => .inr ⟨r, c, k, h⟩, rfl, rfl, rfl, fun _ => by simp, fun _ _ h => .inl h⟩
theorem HInv.drew {S : Nat → Nat → Prop} {β : Blocks} {w : World} {h : List AObj} (hi : HInv S β w h) : HInv S β w.drew h :=
 ⟨hi.len, fun r o b c k ho hb => (hi.obj r o b c k ho hb).mono (w := w) (w' := w.drew) (fun _ _ h => ⟨h, rfl⟩) (fun _ _ h => h) (fun _ => rfl), hi.lt, hi.inj, hi.own, hi.sb, hi.gl.mono (fun _ _ h => ⟨h, rfl⟩), hi.dl⟩
theorem cell_alloc_old (w : World) (o : Obj) (b i : Nat) (hb : b < w.heap.size) : look (w.alloc o) b i = look w b i :=
 look_of_block (heap_alloc_old w o b hb)
theorem keeps_alloc {S : Nat → Nat → Prop} {β : Blocks} {w : World} {h : List AObj} (hi : HInv S β w h) (o : Obj) (S' : Nat → Nat → Prop) (hs : ∀ b i, S b i → S' b i) : Keeps S w S' (w.alloc o) :=
 fun b i hb => ⟨hs b i hb, cell_alloc_old w o b i (hi.sb b i hb)⟩
theorem getElem?_snoc {α : Type} (l : List α) (x : α) (r : Nat) (y : α) : (l ++ [x])[r]? = some y ↔ (l[r]? = some y ∧ r < l.length) ∨ (r = l.length ∧ x = y) := by
 rw [List.getElem?_append]
 split
 ·rename_i h
  constructor
  ·exact fun hh => .inl ⟨hh, h⟩
  ·rintro (⟨h1, _⟩ | ⟨h1, _⟩)
   ·exact h1
   ·omega
 ·rename_i h
  constructor
  ·intro hh
   have : r - l.length = 0 := by
    rcases Nat.eq_zero_or_pos (r - l.length) with h0 | h0
    ·exact h0
    ·rw [List.getElem?_eq_none (by simp; omega)] at hh; cases hh
   rw [this] at hh
   exact .inr ⟨by omega, by simpa using hh⟩
  ·rintro (⟨_, h1⟩ | ⟨h1, h2⟩)
   ·omega
   ·subst h1; simp [h2]
theorem lt_of_getElem? {α : Type} {l : List α} {r : Nat} {x : α} (h : l[r]? = some x) : r < l.length := by
 rcases Nat.lt_or_ge r l.length with h' | h'
 ·exact h'
 ·rw [List.getElem?_eq_none h'] at h; cases h
theorem own_allocO {S : Nat → Nat → Prop} {β : Blocks} {w : World} {h : List AObj} (hi : HInv S β w h) (ob : Obj) (c k : Nat) (o : AObj)
  (ho : o.live = true) (hr : ObjRel S (β ++ [(w.heap.size, c, k)]) (w.alloc ob) w.heap.size c k o) :
  Ext DR S β w S (β ++ [(w.heap.size, c, k)]) (w.alloc ob) ∧ HInv S (β ++ [(w.heap.size, c, k)]) (w.alloc ob) (h ++ [o]) := by
 have hk := keeps_alloc hi ob S (fun _ _ h => h)
 have hp : ∀ (r : Nat) x, β[r]? = some x → (β ++ [(w.heap.size, c, k)])[r]? = some x := fun r x hx => (getElem?_snoc _ _ _ _).2 (.inl ⟨hx, lt_of_getElem? hx⟩)
 constructor
 ·refine ⟨hk, hp, by simp, fun b hb _ => heap_alloc_old w _ b hb, fun r b c' k' hr => ?_, rfl, rfl, rfl, fun _ => Nat.le_refl _, fun _ _ h => .inl h⟩
  rcases (getElem?_snoc _ _ _ _).1 hr with ⟨h1, _⟩ | ⟨_, h1⟩
  ·exact .inr ⟨r, c', k', h1⟩
  ·cases h1; exact .inl (Nat.le_refl _)
 ·refine ⟨by simp [hi.len], fun r o' b c' k' h1 h2 => ?_, fun r o' b c' k' h1 l1 h2 => ?_, fun r r' o1 o2 b c1 k1 c2 k2 h1 l1 h2 l2 h3 h4 => ?_, fun r o' b c' k' i h1 l1 h2 hs => ?_, fun b i hs => ?_, hi.gl.mono hk, fun r b c' k' hr => ?_⟩
  ·rcases (getElem?_snoc _ _ _ _).1 h1 with ⟨h1, l1⟩ | ⟨e1, h1⟩
   ·rcases (getElem?_snoc _ _ _ _).1 h2 with ⟨h2, l2⟩ | ⟨e2, h2⟩
    ·exact (hi.obj r o' b c' k' h1 h2).mono hk hp (fun hl => heap_alloc_old w _ b (hi.lt r o' b c' k' h1 hl h2))
    ·have := hi.len; omega
   ·rcases (getElem?_snoc _ _ _ _).1 h2 with ⟨h2, l2⟩ | ⟨e2, h2⟩
    ·have := hi.len; omega
    ·cases h2; subst h1; exact hr
  ·rcases (getElem?_snoc _ _ _ _).1 h2 with ⟨h2, l2⟩ | ⟨e2, h2⟩
   ·rcases (getElem?_snoc _ _ _ _).1 h1 with ⟨h1, l3⟩ | ⟨e1, h1⟩
    ·have := hi.lt r o' b c' k' h1 l1 h2; simp; omega
    ·have := hi.len; omega
   ·cases h2; simp
  ·rcases (getElem?_snoc _ _ _ _).1 h1 with ⟨h1, g1⟩ | ⟨e1, h1⟩ <;> rcases (getElem?_snoc _ _ _ _).1 h2 with ⟨h2, g2⟩ | ⟨e2, h2⟩ <;>
    rcases (getElem?_snoc _ _ _ _).1 h3 with ⟨h3, g3⟩ | ⟨e3, h3⟩ <;> rcases (getElem?_snoc _ _ _ _).1 h4 with ⟨h4, g4⟩ | ⟨e4, h4⟩
   ·exact hi.inj r r' o1 o2 b c1 k1 c2 k2 h1 l1 h2 l2 h3 h4
   all_goals first
    | (have := hi.len; omega)
    | (cases h4; have := hi.lt r o1 _ c1 k1 h1 l1 h3; omega)
    | (cases h3; have := hi.lt r' o2 _ c2 k2 h2 l2 h4; omega)
  ·rcases (getElem?_snoc _ _ _ _).1 h1 with ⟨h1, g1⟩ | ⟨e1, h1⟩ <;> rcases (getElem?_snoc _ _ _ _).1 h2 with ⟨h2, g2⟩ | ⟨e2, h2⟩
   ·exact hi.own r o' b c' k' i h1 l1 h2 hs
   ·have := hi.len; omega
   ·have := hi.len; omega
   ·cases h2; have := hi.sb _ _ hs; omega
  ·have := hi.sb b i hs; simp; omega
  ·rcases (getElem?_snoc _ _ _ _).1 hr with ⟨h1, _⟩ | ⟨_, h1⟩
   ·have := hi.dl _ _ _ _ h1; simp; omega
   ·cases h1; simp
theorem own_alloc {S : Nat → Nat → Prop} {β : Blocks} {w : World} {h : List AObj} (hi : HInv S β w h) (cur : Array Value) (e : TypeId) (c k : Nat) (o : AObj)
  (ho : o.live = true) (hr : ObjRel S (β ++ [(w.heap.size, c, k)]) (w.alloc (.cells cur e)) w.heap.size c k o) :
  Ext DR S β w S (β ++ [(w.heap.size, c, k)]) (w.alloc (.cells cur e)) ∧ HInv S (β ++ [(w.heap.size, c, k)]) (w.alloc (.cells cur e)) (h ++ [o]) := own_allocO (DR := DR) hi _ c k o ho hr
theorem pure_alloc {S : Nat → Nat → Prop} {β : Blocks} {w : World} {h : List AObj} (hi : HInv S β w h) (o : Obj) :
  Ext DR S β w (fun b i => S b i ∨ b = w.heap.size) β (w.alloc o) ∧ HInv (fun b i => S b i ∨ b = w.heap.size) β (w.alloc o) h := by
 have hk := keeps_alloc hi o (fun b i => S b i ∨ b = w.heap.size) (fun _ _ h => .inl h)
 constructor
 ·refine ⟨hk, fun _ _ h => h, by simp, fun b hb _ => heap_alloc_old w _ b hb, fun r b c k hr => .inr ⟨r, c, k, hr⟩, rfl, rfl, rfl, fun _ => Nat.le_refl _, fun b i hs => ?_⟩
  rcases hs with hs | hs
  ·exact .inl hs
  ·exact .inr (.inl (by omega))
 ·refine ⟨hi.len, fun r o' b c k h1 h2 => (hi.obj r o' b c k h1 h2).mono hk (fun _ _ h => h) (fun hl => heap_alloc_old w _ b (hi.lt r o' b c k h1 hl h2)), fun r o' b c k h1 l1 h2 => ?_, hi.inj, fun r o' b c k i h1 l1 h2 hs => ?_, fun b i hs => ?_, hi.gl.mono hk, fun r b c k hr => by have := hi.dl _ _ _ _ hr; simp; omega⟩
  ·have := hi.lt r o' b c k h1 l1 h2; simp; omega
  ·rcases hs with hs | hs
   ·exact hi.own r o' b c k i h1 l1 h2 hs
   ·have := hi.lt r o' b c k h1 l1 h2; omega
  ·rcases hs with hs | hs
   ·have := hi.sb b i hs; simp; omega
   ·simp; omega
theorem own_write {S : Nat → Nat → Prop} {β : Blocks} {w w' : World} {h : List AObj} (hi : HInv S β w h) {r b c k : Nat} {o o' : AObj} (hr : h[r]? = some o) (hm : o.mut = true) (hb : β[r]? = some (b, c, k))
  (hs : w'.heap.size = w.heap.size) (hw : ∀ j, j ≠ b → w'.heap[j]? = w.heap[j]?) (h1 : w'.os = w.os) (h2 : w'.tape = w.tape) (h3 : w'.output = w.output) (h4 : w.drawn ≤ w'.drawn)
  (ho : o'.mut = true) (hn : Keeps S w S w' → ObjRel S β w' b c k o') : Ext DR S β w S β w' ∧ HInv S β w' (h.set r o') := by
 have hl := AObj.mut_live hm
 have hk1 : ∃ k', k = k' + 1 := by
  have hob := hi.obj r o b c k hr hb
  cases o <;> first | (cases hm; done) | exact ⟨0, hob.1⟩ | exact ⟨k - 1, by have := hob.2.1; have := hob.1; omega⟩
 obtain ⟨k1, hk1⟩ := hk1
 have hk : Keeps S w S w' := fun b' i hb' => ⟨hb', look_of_block (hw b' (fun e => by
  have := hi.own r o b c k i hr hl hb (e ▸ hb')
  rw [AObj.mut_room hm] at this
  omega))⟩
 have hlt := lt_of_getElem? hr
 constructor
 ·exact ⟨hk, fun _ _ h => h, by omega, fun j _ hj => hw j (fun e => hj r c k1 (by rw [← hk1]; exact e ▸ hb)), fun r b c k h => .inr ⟨r, c, k, h⟩, h1, h2, h3, fun _ => h4, fun _ _ h => .inl h⟩
 ·have live : ∀ (q : Nat) (y : AObj), (h.set r o')[q]? = some y → y.live = true → ∃ z, h[q]? = some z ∧ z.live = true := by
   intro q y gq ly
   rw [List.getElem?_set] at gq
   split at gq
   ·rename_i e; subst e; exact ⟨o, hr, hl⟩
   ·exact ⟨y, gq, ly⟩
  refine ⟨by simp [hi.len], fun r' x b' c' k' g1 g2 => ?_, fun r' x b' c' k' gx lx g => by obtain ⟨z, q1, y1⟩ := live r' x gx lx; have := hi.lt r' z b' c' k' q1 y1 g; omega, fun r1 r2 o1 o2 b' c1 k1 c2 k2 g1 l1 g2 l2 g3 g4 => ?_, fun r' x b' c' k' i g1 l1 g2 gs => ?_, fun b' i g => by have := hi.sb b' i g; omega, hi.gl.mono hk, fun r b' c k g => by have := hi.dl _ _ _ _ g; omega⟩
  ·rw [List.getElem?_set] at g1
   split at g1
   ·rename_i e
    subst e
    cases g1
    rw [hb] at g2
    cases g2
    exact hn hk
   ·rename_i hne
    refine (hi.obj r' x b' c' k' g1 g2).mono hk (fun _ _ h => h) (fun hlive => hw b' (fun e => hne ?_))
    subst e
    exact hi.inj r r' o x b' c k c' k' hr hl g1 hlive hb g2
  ·obtain ⟨z1, q1, y1⟩ := live r1 o1 g1 l1
   obtain ⟨z2, q2, y2⟩ := live r2 o2 g2 l2
   exact hi.inj r1 r2 z1 z2 b' c1 k1 c2 k2 q1 y1 q2 y2 g3 g4
  ·rw [List.getElem?_set] at g1
   split at g1
   ·rename_i e
    subst e
    have := hi.own r o b' c' k' i hr hl g2 gs
    rw [AObj.mut_room hm] at this
    omega
   ·exact hi.own r' x b' c' k' i g1 l1 g2 gs
def plus (S : Nat → Nat → Prop) (b0 n : Nat) : Nat → Nat → Prop := fun b i => S b i ∨ (b = b0 ∧ i < n)
theorem tok_alloc {S : Nat → Nat → Prop} {β : Blocks} {w : World} {h : List AObj} (hi : HInv S β w h) (cur : Array Value) (e : TypeId) (c k n : Nat) (hk0 : 0 < k) (hc : c ≤ maxLen) (hn : n ≤ c) (hs : cur.size = c * k) :
  Ext DR S β w (plus S w.heap.size (n * k)) (β ++ [(w.heap.size, c, k)]) (w.alloc (.cells cur e)) ∧ HInv (plus S w.heap.size (n * k)) (β ++ [(w.heap.size, c, k)]) (w.alloc (.cells cur e)) (h ++ [.tok k n]) := by
 have hk := keeps_alloc hi (.cells cur e) (plus S w.heap.size (n * k)) (fun _ _ h => .inl h)
 have hp : ∀ (r : Nat) x, β[r]? = some x → (β ++ [(w.heap.size, c, k)])[r]? = some x := fun r x hx => (getElem?_snoc _ _ _ _).2 (.inl ⟨hx, lt_of_getElem? hx⟩)
 obtain ⟨e1, e2⟩ := own_alloc (DR := DR) hi cur e c k (.tok k n) rfl ⟨rfl, hk0, hc, hn, cur, e, heap_alloc_new w _, hs⟩
 constructor
 ·refine ⟨hk, e1.pre, e1.size, e1.rest, e1.fresh, rfl, rfl, rfl, fun _ => Nat.le_refl _, fun b i hs => ?_⟩
  rcases hs with hs | ⟨hs, _⟩
  ·exact .inl hs
  ·exact .inr (.inl (by omega))
 ·have hk2 : Keeps S (w.alloc (.cells cur e)) (plus S w.heap.size (n * k)) (w.alloc (.cells cur e)) := fun _ _ h => ⟨.inl h, rfl⟩
  refine ⟨e2.len, fun r o b c' k' g1 g2 => (e2.obj r o b c' k' g1 g2).mono hk2 (fun _ _ h => h) (fun _ => rfl), e2.lt, e2.inj, fun r o b c' k' i g1 l1 g2 gs => ?_, fun b i gs => ?_, e2.gl.mono hk2, e2.dl⟩
  ·rcases gs with gs | ⟨rfl, gs⟩
   ·exact e2.own r o b c' k' i g1 l1 g2 gs
   ·have hlen := hi.len
    rcases (getElem?_snoc _ _ _ _).1 g1 with ⟨g1, j1⟩ | ⟨j1, g1⟩
    ·rcases (getElem?_snoc _ _ _ _).1 g2 with ⟨g2, j2⟩ | ⟨j2, g2⟩
     ·have := hi.lt r o _ c' k' g1 l1 g2; omega
     ·omega
    ·subst g1; exact gs
  ·rcases gs with gs | ⟨rfl, gs⟩
   ·exact e2.sb b i gs
   ·simp
theorem tok_write {S : Nat → Nat → Prop} {β : Blocks} {w w' : World} {h : List AObj} (hi : HInv S β w h) {r b c k n n' : Nat} (hr : h[r]? = some (.tok k n)) (hb : β[r]? = some (b, c, k)) {cur cur' : Array Value} {e : TypeId}
  (hg : w.heap[b]? = some (.cells cur e (0, 0))) (hg' : w'.heap[b]? = some (.cells cur' e (0, 0))) (hsz : cur'.size = c * k) (hsame : ∀ i, i < n * k → cur'[i]? = cur[i]?) (hn : n ≤ n') (hn' : n' ≤ c)
  (hs : w'.heap.size = w.heap.size) (hw : ∀ j, j ≠ b → w'.heap[j]? = w.heap[j]?) (h1 : w'.os = w.os) (h2 : w'.tape = w.tape) (h3 : w'.output = w.output) (h4 : w.drawn ≤ w'.drawn) :
  Ext DR S β w (plus S b (n' * k)) β w' ∧ HInv (plus S b (n' * k)) β w' (h.set r (.tok k n')) := by
 obtain ⟨o1, o2, o3, o4, _⟩ := hi.obj r _ b c k hr hb
 have hk : Keeps S w (plus S b (n' * k)) w' := fun b' i hb' => ⟨.inl hb', by
  by_cases e1 : b' = b
  ·subst e1
   have := hi.own r _ b' c k i hr rfl hb hb'
   unfold look mapAt
   rw [cell_of_row w' b' i cur' e (0, 0) hg', cell_of_row w b' i cur e (0, 0) hg, hg, hg', hsame i this]
  ·exact look_of_block (hw b' e1)⟩
 have hlt := lt_of_getElem? hr
 have hblt := hi.lt r _ b c k hr rfl hb
 constructor
 ·refine ⟨hk, fun _ _ h => h, by omega, fun j _ hj => hw j (fun e => hj r c (k - 1) (by rw [show k - 1 + 1 = k by omega]; exact e ▸ hb)), fun r b c k h => .inr ⟨r, c, k, h⟩, h1, h2, h3, fun _ => h4, fun b' i hs => ?_⟩
  rcases hs with hs | ⟨rfl, _⟩
  ·exact .inl hs
  ·exact .inr (.inr ⟨r, c, k - 1, by rw [show k - 1 + 1 = k by omega]; exact hb⟩)
 ·have live : ∀ (q : Nat) (y : AObj), (h.set r (.tok k n'))[q]? = some y → y.live = true → ∃ z, h[q]? = some z ∧ z.live = true ∧ (q ≠ r → z = y) := by
   intro q y gq ly
   rw [List.getElem?_set] at gq
   split at gq
   ·rename_i e; subst e; exact ⟨_, hr, rfl, fun h => absurd rfl h⟩
   ·exact ⟨y, gq, ly, fun _ => rfl⟩
  refine ⟨by simp [hi.len], fun r' x b' c' k' g1 g2 => ?_, fun r' x b' c' k' gx lx g => by obtain ⟨z, q1, y1, _⟩ := live r' x gx lx; have := hi.lt r' z b' c' k' q1 y1 g; omega, fun r1 r2 o1 o2 b' c1 k1 c2 k2 g1 l1 g2 l2 g3 g4 => ?_, fun r' x b' c' k' i g1 l1 g2 gs => ?_, fun b' i g => ?_, hi.gl.mono hk, fun r b' c k g => by have := hi.dl _ _ _ _ g; omega⟩
  ·rw [List.getElem?_set] at g1
   split at g1
   ·rename_i e'
    subst e'
    cases g1
    rw [hb] at g2
    cases g2
    exact ⟨rfl, o2, o3, hn', cur', e, hg', hsz⟩
   ·rename_i hne
    refine (hi.obj r' x b' c' k' g1 g2).mono hk (fun _ _ h => h) (fun hlive => hw b' (fun e => hne ?_))
    subst e
    exact hi.inj r r' _ x b' c k c' k' hr rfl g1 hlive hb g2
  ·obtain ⟨z1, q1, y1, _⟩ := live r1 o1 g1 l1
   obtain ⟨z2, q2, y2, _⟩ := live r2 o2 g2 l2
   exact hi.inj r1 r2 z1 z2 b' c1 k1 c2 k2 q1 y1 q2 y2 g3 g4
  ·by_cases hne : r' = r
   ·subst hne
    rw [List.getElem?_set, if_pos rfl, if_pos hlt] at g1
    cases g1
    rw [hb] at g2
    cases g2
    show i < n' * k
    rcases gs with gs | ⟨_, gs⟩
    ·have := hi.own r' _ b c k i hr rfl hb gs
     have h5 : n * k ≤ n' * k := Nat.mul_le_mul_right _ hn
     simp only [AObj.room] at this
     omega
    ·exact gs
   ·obtain ⟨z, q1, y1, hz⟩ := live r' x g1 l1
    have := hz hne
    subst this
    rcases gs with gs | ⟨rfl, gs⟩
    ·exact hi.own r' z b' c' k' i q1 y1 g2 gs
    ·exact absurd (hi.inj r' r z _ b' c' k' c k q1 y1 hr rfl g2 hb) hne
  ·rcases g with g | ⟨rfl, _⟩
   ·have := hi.sb b' i g; omega
   ·omega
theorem HInv.pad {S : Nat → Nat → Prop} {β : Blocks} {w : World} {h : List AObj} (hi : HInv S β w h) : Ext DR S β w S (β ++ [(w.heap.size, 0, 0)]) w ∧ HInv S (β ++ [(w.heap.size, 0, 0)]) w (h ++ [.dead]) := by
 have hp : ∀ (q : Nat) x, β[q]? = some x → (β ++ [(w.heap.size, 0, 0)])[q]? = some x := fun q x hx => (getElem?_snoc _ _ _ _).2 (.inl ⟨hx, lt_of_getElem? hx⟩)
 have hK : Keeps S w S w := fun _ _ h => ⟨h, rfl⟩
 have hlen := hi.len
 have old : ∀ (q : Nat) (o : AObj) x, (h ++ [.dead])[q]? = some o → o.live = true → (β ++ [(w.heap.size, 0, 0)])[q]? = some x → h[q]? = some o ∧ β[q]? = some x := by
  intro q o x g1 l1 g2
  rcases (getElem?_snoc _ _ _ _).1 g1 with ⟨g1, j1⟩ | ⟨j1, g1⟩
  ·rcases (getElem?_snoc _ _ _ _).1 g2 with ⟨g2, j2⟩ | ⟨j2, g2⟩
   ·exact ⟨g1, g2⟩
   ·omega
  ·subst g1; cases l1
 constructor
 ·refine ⟨hK, hp, Nat.le_refl _, fun _ _ _ => rfl, fun q b c k hq => ?_, rfl, rfl, rfl, fun _ => Nat.le_refl _, fun _ _ h => .inl h⟩
  rcases (getElem?_snoc _ _ _ _).1 hq with ⟨h1, _⟩ | ⟨_, h1⟩
  ·exact .inr ⟨q, c, k, h1⟩
  ·cases h1
 ·refine ⟨by simp [hlen], fun q o b c k g1 g2 => ?_, fun q o b c k g1 l1 g2 => ?_, fun q1 q2 o1 o2 b c1 k1 c2 k2 g1 l1 g2 l2 g3 g4 => ?_, fun q o b c k i g1 l1 g2 => ?_, hi.sb, hi.gl, fun q b c k hq => ?_⟩
  ·cases hl : o.live with
   | false => cases o <;> first | trivial | cases hl
   | true =>
    obtain ⟨a1, a2⟩ := old q o _ g1 hl g2
    exact (hi.obj q o b c k a1 a2).mono hK hp (fun _ => rfl)
  ·obtain ⟨a1, a2⟩ := old q o _ g1 l1 g2
   exact hi.lt q o b c k a1 l1 a2
  ·obtain ⟨a1, a2⟩ := old q1 o1 _ g1 l1 g3
   obtain ⟨a3, a4⟩ := old q2 o2 _ g2 l2 g4
   exact hi.inj q1 q2 o1 o2 b c1 k1 c2 k2 a1 l1 a3 l2 a2 a4
  ·obtain ⟨a1, a2⟩ := old q o _ g1 l1 g2
   exact hi.own q o b c k i a1 l1 a2
  ·rcases (getElem?_snoc _ _ _ _).1 hq with ⟨h1, _⟩ | ⟨_, h1⟩
   ·exact hi.dl _ _ _ _ h1
   ·cases h1
end Go.Abs
