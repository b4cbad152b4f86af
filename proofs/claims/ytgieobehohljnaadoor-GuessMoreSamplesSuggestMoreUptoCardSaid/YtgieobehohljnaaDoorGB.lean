/-
  GUESS: the tree of suffixes in own memory, as pure data.
-/
import Derived.Test.YtgieobehohljnaaDoorWF1
import Derived.Test.YtgieobehohljnaaDoorAbsHT
import Derived.Test.YtgieobehohljnaaDoorAbsV
import Derived.Test.YtgieobehohljnaaDoorAbsSF
section
namespace Go.Abs
set_option linter.unusedVariables false

/-! ### places in lists of entries -/
def fidx {α : Type} (p : α → Bool) : List α → Nat → Option Nat
  | [], _ => none
  | x :: r, i => if p x then some i else fidx p r (i + 1)
theorem find_str {α : Type} (f : α → ByteArray) (t : ByteArray) : ∀ (l : List α) (i : Nat), keyFind T 9 (.str t) (l.map fun x => .str (f x)) i = some (fidx (fun x => t.toList == (f x).toList) l i)
  | [], _ => rfl
  | x :: r, i => by
    have h : eqV T 8 9 (.str t) (.str (f x)) = some (t.toList == (f x).toList) := rfl
    simp only [List.map_cons, keyFind, h, fidx]
    by_cases hb : (t.toList == (f x).toList) = true
    · simp only [hb, if_true]
    · have hb : (t.toList == (f x).toList) = false := by simpa using hb
      simp only [hb, Bool.false_eq_true, if_false]
      exact find_str f t r (i + 1)
theorem find_int (x : Int) : ∀ (l : List Int) (i : Nat), keyFind T 3 (.int .i64 x) (l.map fun y => .int .i64 y) i = some (fidx (fun y => x == y) l i)
  | [], _ => rfl
  | y :: r, i => by
    have h : eqV T 8 3 (.int .i64 x) (.int .i64 y) = some (x == y) := rfl
    simp only [List.map_cons, keyFind, h, fidx]
    by_cases hb : (x == y) = true
    · simp only [hb, if_true]
    · have hb : (x == y) = false := by simpa using hb
      simp only [hb, Bool.false_eq_true, if_false]
      exact find_int x r (i + 1)
theorem fidx_some {α : Type} {p : α → Bool} : ∀ {l : List α} {i j : Nat}, fidx p l i = some j → ∃ q x, j = i + q ∧ l[q]? = some x ∧ p x = true
  | [], _, _, h => by cases h
  | x :: r, i, j, h => by
    simp only [fidx] at h
    split at h
    · rename_i hp; cases h; exact ⟨0, x, rfl, rfl, hp⟩
    · obtain ⟨q, y, h1, h2, h3⟩ := fidx_some h
      exact ⟨q + 1, y, by omega, by simpa using h2, h3⟩
theorem fidx_none {α : Type} {p : α → Bool} : ∀ {l : List α} {i : Nat}, fidx p l i = none → ∀ x ∈ l, p x = false
  | [], _, _, _, hx => by cases hx
  | y :: r, i, h, x, hx => by
    simp only [fidx] at h
    split at h
    · cases h
    · rename_i hp
      rcases List.mem_cons.1 hx with rfl | hx
      · simpa using hp
      · exact fidx_none h x hx

/-- how many samples of a tag -/
def cnt (t : ByteArray) : List (ByteArray × Int) → Int
  | [] => 0
  | x :: r => if t.toList == x.1.toList then x.2 else cnt t r
/-- one more -/
def bumpL (t : ByteArray) : List (ByteArray × Int) → List (ByteArray × Int)
  | [] => [(t, w64 (0 + 1))]
  | x :: r => if t.toList == x.1.toList then (t, w64 (x.2 + 1)) :: r else x :: bumpL t r
def keyS (x : ByteArray × Int) : V := .str x.1
def valS (x : ByteArray × Int) : D := dI x.2
theorem bump_some {t : ByteArray} : ∀ {l : List (ByteArray × Int)} {i j : Nat}, fidx (fun x => t.toList == x.1.toList) l i = some j →
    ∃ q, j = i + q ∧ (l.map valS)[q]? = some (dI (cnt t l)) ∧ (l.map keyS).set q (.str t) = (bumpL t l).map keyS ∧ (l.map valS).set q (dI (w64 (cnt t l + 1))) = (bumpL t l).map valS
  | [], _, _, h => by cases h
  | x :: r, i, j, h => by
    simp only [fidx] at h
    split at h
    · rename_i hp
      cases h
      refine ⟨0, rfl, ?_, ?_, ?_⟩ <;> simp [cnt, bumpL, hp, keyS, valS]
    · rename_i hp
      obtain ⟨q, h1, h2, h3, h4⟩ := bump_some h
      refine ⟨q + 1, by omega, ?_, ?_, ?_⟩
      · simpa [cnt, hp] using h2
      · simp [bumpL, hp, h3]
      · simp [bumpL, hp, cnt, h4]
theorem bump_none {t : ByteArray} : ∀ {l : List (ByteArray × Int)} {i : Nat}, fidx (fun x => t.toList == x.1.toList) l i = none → cnt t l = 0 ∧ bumpL t l = l ++ [(t, w64 (0 + 1))]
  | [], _, _ => ⟨rfl, rfl⟩
  | x :: r, i, h => by
    simp only [fidx] at h
    split at h
    · cases h
    · rename_i hp
      obtain ⟨h1, h2⟩ := bump_none h
      exact ⟨by simp [cnt, hp, h1], by simp [bumpL, hp, h2]⟩

/-! ### the tree in memory -/
abbrev Loc := List Int → Option (Nat × Nat × Nat)
def pos (loc : Loc) (p : List Int) : Nat → Option Nat
  | 0 => (loc p).map (·.1)
  | 1 => (loc p).map (·.2.1)
  | 2 => (loc p).map (·.2.2)
  | _ => none
def rt (loc : Loc) (p : List Int) : Nat := match loc p with
  | some t => t.1
  | none => 0
def keyI (x : Int) : V := .int .i64 x
structure Tr (L : Nat) (h : List AObj) (loc : Loc) (g : Gz) : Prop where
  root : (loc []).isSome = true
  cell : ∀ p r a b, loc p = some (r, a, b) → h[r]? = some (.cells [.map a, .map b])
  next : ∀ p r a b, loc p = some (r, a, b) → h[a]? = some (.map ((g.ks p).map keyI) ((g.ks p).map fun x => .ptr (rt loc (p ++ [x])) 0))
  cnts : ∀ p r a b, loc p = some (r, a, b) → h[b]? = some (.map ((g.cs p).map keyS) ((g.cs p).map valS))
  kid : ∀ p x, x ∈ g.ks p → (loc (p ++ [x])).isSome = true
  new : ∀ p x, (loc p).isSome = true → x ∉ g.ks p → loc (p ++ [x]) = none
  inj : ∀ p q i j n, pos loc p i = some n → pos loc q j = some n → p = q ∧ i = j
  off : ∀ p, loc p = none → g.ks p = [] ∧ g.cs p = []
  low : ∀ p i n, pos loc p i = some n → L ≤ n
  pre : ∀ p x, (loc (p ++ [x])).isSome = true → (loc p).isSome = true

theorem pos0 {loc : Loc} {p : List Int} {r a b : Nat} (h : loc p = some (r, a, b)) : pos loc p 0 = some r ∧ pos loc p 1 = some a ∧ pos loc p 2 = some b := by simp [pos, h]
theorem Tr.lt {L : Nat} {h : List AObj} {loc : Loc} {g : Gz} (t : Tr L h loc g) {p : List Int} {i n : Nat} (hp : pos loc p i = some n) : n < h.length := by
  cases hl : loc p with
  | none => match i with
    | 0 | 1 | 2 => simp [pos, hl] at hp
    | i + 3 => simp [pos] at hp
  | some x =>
    obtain ⟨r, a, b⟩ := x
    match i with
    | 0 => simp [pos, hl] at hp; subst hp; exact lt_of_getElem? (t.cell p _ _ _ hl)
    | 1 => simp [pos, hl] at hp; subst hp; exact lt_of_getElem? (t.next p _ _ _ hl)
    | 2 => simp [pos, hl] at hp; subst hp; exact lt_of_getElem? (t.cnts p _ _ _ hl)
    | i + 3 => simp [pos] at hp
/-- memory that grows -/
theorem Tr.app {L : Nat} {h : List AObj} {loc : Loc} {g : Gz} (t : Tr L h loc g) (e : List AObj) : Tr L (h ++ e) loc g := by
  have up : ∀ (r : Nat) o, h[r]? = some o → (h ++ e)[r]? = some o := fun r o ho => by rw [List.getElem?_append_left (lt_of_getElem? ho)]; exact ho
  exact { t with cell := fun p r a b hp => up _ _ (t.cell p r a b hp), next := fun p r a b hp => up _ _ (t.next p r a b hp), cnts := fun p r a b hp => up _ _ (t.cnts p r a b hp) }
/-- memory elsewhere is written -/
theorem Tr.set {L : Nat} {h : List AObj} {loc : Loc} {g : Gz} (t : Tr L h loc g) (q : Nat) (o : AObj) (hq : q < L) : Tr L (h.set q o) loc g := by
  have up : ∀ p i (n : Nat) x, pos loc p i = some n → h[n]? = some x → (h.set q o)[n]? = some x := fun p i n x hp hx => by
    have := t.low p i n hp
    rw [List.getElem?_set_ne (by omega)]; exact hx
  exact { t with cell := fun p r a b hp => up p 0 _ _ (pos0 hp).1 (t.cell p r a b hp), next := fun p r a b hp => up p 1 _ _ (pos0 hp).2.1 (t.next p r a b hp), cnts := fun p r a b hp => up p 2 _ _ (pos0 hp).2.2 (t.cnts p r a b hp) }

def Gz.bump (g : Gz) (p : List Int) (t : ByteArray) : Gz := ⟨g.ks, fun q => if q = p then bumpL t (g.cs p) else g.cs q⟩
def Gz.addK (g : Gz) (p : List Int) (x : Int) : Gz := ⟨fun q => if q = p then (if x ∈ g.ks p then g.ks p else g.ks p ++ [x]) else g.ks q, g.cs⟩
theorem Gz.addK_mem {g : Gz} {p : List Int} {x : Int} (h : x ∈ g.ks p) : g.addK p x = g := by
  obtain ⟨ks, cs⟩ := g
  simp only [Gz.addK, Gz.mk.injEq, and_true]
  funext q
  by_cases e : q = p
  · subst e
    rw [if_pos rfl]
    exact if_pos h
  · rw [if_neg e]

/-- a count goes up -/
theorem Tr.bump {L : Nat} {h : List AObj} {loc : Loc} {g : Gz} (t : Tr L h loc g) {p : List Int} {r a b : Nat} (hp : loc p = some (r, a, b)) (tag : ByteArray) :
    Tr L (h.set b (.map ((bumpL tag (g.cs p)).map keyS) ((bumpL tag (g.cs p)).map valS))) loc (g.bump p tag) := by
  have hb := t.lt (pos0 hp).2.2
  have up : ∀ q i (n : Nat) x, pos loc q i = some n → ¬ (q = p ∧ i = 2) → h[n]? = some x → (h.set b (.map ((bumpL tag (g.cs p)).map keyS) ((bumpL tag (g.cs p)).map valS)))[n]? = some x := fun q i n x hq hne hx => by
    have hne' : b ≠ n := fun e => hne (by subst e; exact t.inj q p i 2 b hq (pos0 hp).2.2)
    rw [List.getElem?_set_ne hne']; exact hx
  refine { t with cell := fun q r' a' b' hq => up q 0 _ _ (pos0 hq).1 (by simp) (t.cell q _ _ _ hq), next := fun q r' a' b' hq => up q 1 _ _ (pos0 hq).2.1 (by simp) (t.next q _ _ _ hq), cnts := fun q r' a' b' hq => ?_, off := fun q hq => ?_ }
  · by_cases hqp : q = p
    · subst hqp
      rw [hp] at hq
      cases hq
      simp only [Gz.bump, if_true]
      rw [List.getElem?_set_self hb]
    · simp only [Gz.bump, if_neg hqp]
      exact up q 2 _ _ (pos0 hq).2.2 (by simp [hqp]) (t.cnts q _ _ _ hq)
  · have hqp : q ≠ p := fun e => by rw [e, hp] at hq; cases hq
    simp only [Gz.bump, if_neg hqp]
    exact t.off q hq

/-- a new node -/
theorem Tr.grow {L : Nat} {h : List AObj} {loc : Loc} {g : Gz} (t : Tr L h loc g) {p : List Int} {r a b : Nat} (hp : loc p = some (r, a, b)) {x : Int} (hx : x ∉ g.ks p) (hL : L ≤ h.length) :
    Tr L ((h ++ [AObj.map [] [], .map [] [], .cells [.map h.length, .map (h.length + 1)]]).set a (AObj.map ((g.ks p ++ [x]).map keyI) (((g.ks p).map fun y => .ptr (rt loc (p ++ [y])) 0) ++ [.ptr (h.length + 2) 0])))
      (fun q => if q = p ++ [x] then some (h.length + 2, h.length, h.length + 1) else loc q) (g.addK p x) := by
  have hnone : loc (p ++ [x]) = none := t.new p x (by rw [hp]; rfl) hx
  have hoff := t.off _ hnone
  have hpne : p ≠ p ++ [x] := fun e => by have := congrArg List.length e; simp at this
  have ha := t.lt (pos0 hp).2.1
  have hpos : ∀ q i n, pos (fun q => if q = p ++ [x] then some (h.length + 2, h.length, h.length + 1) else loc q) q i = some n → (q = p ++ [x] ∧ ((i = 0 ∧ n = h.length + 2) ∨ (i = 1 ∧ n = h.length) ∨ (i = 2 ∧ n = h.length + 1))) ∨ (q ≠ p ++ [x] ∧ pos loc q i = some n) := by
    intro q i n hq
    by_cases e : q = p ++ [x]
    · left
      refine ⟨e, ?_⟩
      match i with
      | 0 => simp [pos, e] at hq; exact .inl ⟨rfl, hq.symm⟩
      | 1 => simp [pos, e] at hq; exact .inr (.inl ⟨rfl, hq.symm⟩)
      | 2 => simp [pos, e] at hq; exact .inr (.inr ⟨rfl, hq.symm⟩)
      | i + 3 => simp [pos] at hq
    · right
      refine ⟨e, ?_⟩
      match i with
      | 0 => simpa [pos, e] using hq
      | 1 => simpa [pos, e] using hq
      | 2 => simpa [pos, e] using hq
      | i + 3 => simp [pos] at hq
  generalize hM : (AObj.map ((g.ks p ++ [x]).map keyI) (((g.ks p).map fun y => D.ptr (rt loc (p ++ [y])) 0) ++ [.ptr (h.length + 2) 0])) = M
  have up : ∀ q i (n : Nat) o, pos loc q i = some n → ¬ (q = p ∧ i = 1) → h[n]? = some o → ((h ++ [AObj.map [] [], .map [] [], .cells [.map h.length, .map (h.length + 1)]]).set a M)[n]? = some o := fun q i n o hq hne hx => by
    have hne' : a ≠ n := fun e => hne (by subst e; exact t.inj q p i 1 a hq (pos0 hp).2.1)
    rw [List.getElem?_set_ne hne', List.getElem?_append_left (lt_of_getElem? hx)]; exact hx
  have nw : ∀ k o, ([.map [] [], .map [] [], .cells [.map h.length, .map (h.length + 1)]] : List AObj)[k]? = some o → ((h ++ [AObj.map [] [], .map [] [], .cells [.map h.length, .map (h.length + 1)]]).set a M)[h.length + k]? = some o := fun k o ho => by
    rw [List.getElem?_set_ne (by omega), List.getElem?_append_right (by omega)]
    simpa using ho
  have hks : ∀ q, q ≠ p → (g.addK p x).ks q = g.ks q := fun q hq => by simp [Gz.addK, hq]
  have hkp : (g.addK p x).ks p = g.ks p ++ [x] := by simp [Gz.addK, hx]
  have hrt : ∀ q y, q ≠ p ∨ y ≠ x → rt (fun q => if q = p ++ [x] then some (h.length + 2, h.length, h.length + 1) else loc q) (q ++ [y]) = rt loc (q ++ [y]) := fun q y hq => by
    have : q ++ [y] ≠ p ++ [x] := fun e => by
      obtain ⟨e1, e2⟩ := List.append_inj' e rfl
      rcases hq with hq | hq
      · exact hq e1
      · exact hq (List.cons.inj e2).1
    simp [rt, this]
  refine ⟨?_, fun q r' a' b' hq => ?_, fun q r' a' b' hq => ?_, fun q r' a' b' hq => ?_, fun q y hy => ?_, fun q y hq hy => ?_, fun q1 q2 i j n h1 h2 => ?_, fun q hq => ?_, fun q i n hq => ?_, fun q y hq => ?_⟩
  · have : ([] : List Int) ≠ p ++ [x] := by simp
    simp only [if_neg this]; exact t.root
  · try dsimp only at hq
    split at hq
    · cases hq
      exact nw 2 _ rfl
    · exact up q 0 _ _ (pos0 hq).1 (by simp) (t.cell q _ _ _ hq)
  · try dsimp only at hq
    split at hq
    · rename_i e
      subst e
      cases hq
      rw [hks _ (Ne.symm hpne), hoff.1]
      exact nw 0 _ rfl
    · by_cases hqp : q = p
      · subst hqp
        rw [hp] at hq
        cases hq
        rw [hkp, List.getElem?_set_self (by simp; omega), ← hM]
        congr 2
        rw [List.map_append]
        congr 1
        · refine List.map_congr_left fun y hy => ?_
          rw [hrt q y (.inr fun e => hx (e ▸ hy))]
        · simp [rt]
      · rw [hks q hqp]
        have := up q 1 _ _ (pos0 hq).2.1 (by simp [hqp]) (t.next q _ _ _ hq)
        rw [this]
        congr 2
        exact List.map_congr_left fun y hy => by rw [hrt q y (.inl hqp)]
  · try dsimp only at hq
    split at hq
    · rename_i e
      subst e
      cases hq
      show _ = some (AObj.map ((g.cs (p ++ [x])).map keyS) ((g.cs (p ++ [x])).map valS))
      rw [hoff.2]
      exact nw 1 _ rfl
    · exact up q 2 _ _ (pos0 hq).2.2 (by simp) (t.cnts q _ _ _ hq)
  · try dsimp only
    split
    · rfl
    · rename_i hne
      by_cases hqp : q = p
      · subst hqp
        rw [hkp] at hy
        rcases List.mem_append.1 hy with hy | hy
        · exact t.kid q y hy
        · simp at hy; subst hy; exact absurd rfl hne
      · rw [hks q hqp] at hy
        exact t.kid q y hy
  · try dsimp only at hq ⊢
    split at hq
    · rename_i e
      subst e
      rw [hks _ (Ne.symm hpne)] at hy
      have h1 : (p ++ [x]) ++ [y] ≠ p ++ [x] := fun e => by have := congrArg List.length e; simp at this
      rw [if_neg h1]
      -- behind a node that was not there nothing is
      cases hl : loc ((p ++ [x]) ++ [y]) with
      | none => rfl
      | some tt =>
        have := t.pre (p ++ [x]) y (by rw [hl]; rfl)
        rw [hnone] at this
        cases this
    · by_cases hqp : q = p
      · subst hqp
        rw [hkp] at hy
        have h1 : q ++ [y] ≠ q ++ [x] := fun e => hy (by
          have := (List.append_inj' e rfl).2
          simp at this; simp [this])
        rw [if_neg h1]
        exact t.new q y hq fun hm => hy (List.mem_append_left _ hm)
      · rw [hks q hqp] at hy
        have h1 : q ++ [y] ≠ p ++ [x] := fun e => hqp (List.append_inj' e rfl).1
        rw [if_neg h1]
        exact t.new q y hq hy
  · rcases hpos q1 i n h1 with ⟨e1, g1⟩ | ⟨e1, g1⟩ <;> rcases hpos q2 j n h2 with ⟨e2, g2⟩ | ⟨e2, g2⟩
    · exact ⟨e1.trans e2.symm, by omega⟩
    · have := t.lt g2; omega
    · have := t.lt g1; omega
    · exact t.inj q1 q2 i j n g1 g2
  · try dsimp only at hq
    split at hq
    · cases hq
    · have hqp : q ≠ p := fun e => by rw [e, hp] at hq; cases hq
      rw [hks q hqp]
      exact t.off q hq
  · rcases hpos q i n hq with ⟨_, g1⟩ | ⟨_, g1⟩
    · omega
    · exact t.low q i n g1
  · try dsimp only at hq ⊢
    split at hq
    · rename_i e
      obtain ⟨rfl, _⟩ := List.append_inj' e rfl
      rw [if_neg hpne, hp]; rfl
    · split
      · rfl
      · exact t.pre q y hq
end Go.Abs
end
section
namespace Go.Abs
set_option linter.unusedVariables false
set_option maxRecDepth 100000

/-- a state by its slots that matter -/
def Sm (n : Nat) (l : List (Nat × D)) (h : List AObj) : St := ⟨(List.range n).map fun i => (l.lookup i).getD .undef, h⟩
/-- behind a round of a loop: what was laid since is let go -/
def lpS (ks acc : List Nat) (L : Nat) (I : Nat → St → Prop) (m : Nat) (Q : Post) : Post
  | .normal, σ => ∃ k, k < m ∧ I k (squash ks acc L (Abs.forget ks σ))
  | e, σ => Q e (Abs.forget ks σ)
theorem Ht.loopS {DR : Prop} {P : Program} {c : Code} {σ : St} {Q : Post} (ks acc : List Nat) (I : Nat → St → Prop) (n : Nat) (hc : isLoop c = true) (L : Nat) (hL : σ.heap.length = L) (h0 : I n (squash ks acc L (Abs.forget ks σ))) (step : ∀ m σ, I m σ → Ht DR P (cL c) σ (lpS ks acc L I m Q)) : Ht DR P c σ Q := by
  cases c <;> first | (cases hc; done) | skip
  rename_i b
  subst hL
  intro S β a w hI
  obtain ⟨β1, hI1, hE1⟩ := (hI.forget ks).squash ks acc (L := σ.heap.length) (Nat.le_refl _)
  refine wp_loop_ghost (fun n a' w' => ∃ σ1 S1 β1, I n σ1 ∧ Inv S1 β1 σ1 a' w' ∧ Ext DR S β w S1 β1 w') n ⟨_, S, β1, h0, hI1, hE1 S β w hI.heap.len (Ext.refl _ _ _)⟩ ?_
  rintro m a' w' ⟨σ1, S1, β1, h1, hI1, hE1⟩
  refine wp_mono (step m σ1 h1 S1 β1 a' w' hI1) ?_
  rintro ex a2 w2 ⟨e, σ2, hq, rfl, S2, β2, hI2, hE2⟩
  have hE3 := hE1.trans hE2
  cases e with
  | normal =>
    obtain ⟨k, hk, hi⟩ := hq
    have hL : σ.heap.length ≤ (Abs.forget ks σ2).heap.length := by
      have h3 := hE3.le
      have h4 := hI2.heap.len
      have h5 := hI.heap.len
      show σ.heap.length ≤ σ2.heap.length
      omega
    obtain ⟨β3, hI3, hE4⟩ := (hI2.forget ks).squash ks acc hL
    exact ⟨k, hk, _, S2, β3, hi, hI3, hE4 S β w hI.heap.len hE3⟩
  | exit id => exact ⟨.exit id, _, hq, rfl, S2, β2, hI2.forget ks, hE3⟩
  | ret => exact ⟨.ret, _, hq, rfl, S2, β2, hI2.forget ks, hE3⟩

noncomputable def XB (n : Nat) : Cx := ⟨{ E with rowM := true, pureF := fun f => E.pureF f && f != 20 }, run Proofs.Tryd.prog E n, ⟨fun _ => [], fun _ => [], fun _ => []⟩, [], n⟩
theorem hxB (n : Nat) : Hx False Proofs.Tryd.prog (XB n) := ⟨good.mixed, good.types, run_sound good n⟩
noncomputable def C10 : Code := bodyOf Proofs.Tryd.prog 10

theorem fresh_run (n : Nat) (h : List AObj) : run Proofs.Tryd.prog E (n + 1) 20 [] h = some (.ptr (h.length + 2) 0, h ++ [.map [] [], .map [] [], .cells [.map h.length, .map (h.length + 1)]]) := by
  have e : run Proofs.Tryd.prog E (n + 1) 20 [] h = some (.ptr ((h ++ [AObj.map [] []]) ++ [AObj.map [] []]).length 0, ((h ++ [AObj.map [] []]) ++ [AObj.map [] []]) ++ [AObj.cells [.map h.length, .map (h ++ [AObj.map [] []]).length]]) := by kernel_rfl
  rw [e]
  simp

/-- the checks, word by word -/
def vscan (m : Nat) : List S39 → Int → Option (Option S27)
  | [], _ => some none
  | s :: r, i => bnd (f18 m s.fWord) fun a => cnd (!a) (some (some ⟨5, i⟩)) (bnd (f19 m s.fTag) fun b => cnd (!b) (some (some ⟨10, i⟩)) (vscan m r (w64 (i + 1))))

/-- how Build ends -/
def bQ (rs : List ResultVar) (N : Nat) (r : V) : Post := fun e σ => (e = .normal ∨ e = .ret) ∧ ∃ d, resultsD T σ rs = some d ∧ frz σ.heap N d = some r

def zO : List AObj := [.cells [.v .nilptr], .cells [dI 0, dI 0]]
theorem seqH.x {DR : Prop} {P : Program} {b : Code} {Q : Post} {id : Nat} {σ : St} (h : Q (.exit id) σ) : seqH DR P b Q (.exit id) σ := h
theorem seqH.r {DR : Prop} {P : Program} {b : Code} {Q : Post} {σ : St} (h : Q .ret σ) : seqH DR P b Q .ret σ := h
theorem blkH.r {id : Nat} {Q : Post} {σ : St} (h : Q .ret σ) : blkH id Q .ret σ := h
theorem blkH.n {id : Nat} {Q : Post} {σ : St} (h : Q .normal σ) : blkH id Q .normal σ := h
theorem Ht.st {DR : Prop} {P : Program} {c : Code} {σ σ' : St} {Q : Post} (e : σ = σ') (h : Ht DR P c σ' Q) : Ht DR P c σ Q := by rw [e]; exact h

theorem res_bad (f : S27) (σ : St) (h2 : σ.tmps.getD 2 .undef = .ptr 0 0) (h3 : σ.tmps.getD 3 .undef = .ptr 1 0) (hh : ∃ e, σ.heap = .cells [.v .nilptr] :: .cells [dI f.fCode, dI f.fIndex] :: e) : ∃ d, resultsD T σ (resOf Proofs.Tryd.prog 10) = some d ∧ frz σ.heap 15 d = some (.tuple [.agg [.nilptr], e27 f]) := by
  obtain ⟨e, hh⟩ := hh
  have hr : resOf Proofs.Tryd.prog 10 = [.cell 2 26, .cell 3 28] := by kernel_rfl
  rw [hr]
  refine ⟨.v (.tuple [.agg [.nilptr], e27 f]), ?_, rfl⟩
  simp only [resultsD, allM, resultD, T, h2, h3, hh]
  rfl

theorem build_check (m n : Nat) (hn : m + 30 ≤ n) (a0 : List S39) (hlen : a0.length ≤ 9223372036854775807) (o : Option S27) (h : (if a0.length > 300 then some (some ⟨2, -1⟩) else vscan m a0 0) = some o) {Q : Post}
    (hq : ∀ f, o = some f → ∀ σ, (∃ d, resultsD T σ (resOf Proofs.Tryd.prog 10) = some d ∧ frz σ.heap 15 d = some (.tuple [.agg [.nilptr], e27 f])) → Q .ret σ)
    (hk : o = none → Ht False Proofs.Tryd.prog (cR (cR (cR C10))) (Sm 109 [(0, .v (eL e39 a0)), (2, .ptr 0 0), (3, .ptr 1 0)] zO) Q) :
    Ht False Proofs.Tryd.prog C10 (startOf Proofs.Tryd.prog 10 [.v (eL e39 a0)]) Q := by
  refine Ht.seq (by kernel_rfl) ?_
  refine Ht.region (hxB n) (by kernel_rfl) ?_
  refine Ops.seg' 2 2 (by kernel_rfl) ?_
  refine Ops.done (by kernel_rfl) ?_
  refine seqH.n ?_
  refine Ht.seq (by kernel_rfl) ?_
  refine Ht.seq (by kernel_rfl) ?_
  refine Ht.region (hxB n) (by kernel_rfl) ?_
  refine Ops.seg' 1 1 (by kernel_rfl) ?_
  refine Ops.one' 2 (fun h0 e0 => (len_r (T := T) h0 22 40 .plain e39 a0 (by kernel_rfl))) (by kernel_rfl) (by kernel_rfl) ?_
  refine Ops.seg' 1 3 (by kernel_rfl) ?_
  refine Ops.done (by kernel_rfl) ?_
  refine seqH.n ?_
  refine Ht.cond (decide ((a0.length : Int) > 300)) (by kernel_rfl) (by kernel_rfl) (fun hc => ?_) (fun hc => ?_)
  · have hc : a0.length > 300 := by have := of_decide_eq_true hc; omega
    rw [if_pos hc] at h
    cases h
    refine Ht.seq (by kernel_rfl) ?_
    refine Ht.region (hxB n) (by kernel_rfl) ?_
    refine Ops.seg' 1 1 (by kernel_rfl) ?_
    refine Ops.one' 2 (fun h0 e0 => (call_ok (E' := (XB n).E) (h := h0) (by kernel_rfl) (Args.v (vI 2) (eI 2) (by kernel_rfl) (Args.v (vI (-1)) (eI (-1)) (by kernel_rfl) Args.nil)) (ok17 m 2 (-1) ⟨2, -1⟩ rfl n (by omega)))) (by kernel_rfl) (by kernel_rfl) ?_
    refine Ops.seg' 2 4 (by kernel_rfl) ?_
    refine Ops.done (by kernel_rfl) ?_
    refine seqH.n ?_
    refine Ht.ret (by kernel_rfl) ?_
    show Q .ret _
    exact hq _ rfl _ (res_bad ⟨2, -1⟩ _ (by kernel_rfl) (by kernel_rfl) ⟨[], by kernel_rfl⟩)
  have hc : ¬ a0.length > 300 := by have := of_decide_eq_false hc; omega
  rw [if_neg hc] at h
  refine Ht.skip (by kernel_rfl) ?_
  refine seqH.n ?_
  refine Ht.seq (by kernel_rfl) ?_
  refine Ht.seq (by kernel_rfl) ?_
  refine Ht.region (hxB n) (by kernel_rfl) ?_
  refine Ops.seg' 1 1 (by kernel_rfl) ?_
  refine Ops.one' 2 (fun h0 e0 => (len_r (T := T) h0 22 40 .plain e39 a0 (by kernel_rfl))) (by kernel_rfl) (by kernel_rfl) ?_
  refine Ops.seg' 1 3 (by kernel_rfl) ?_
  refine Ops.done (by kernel_rfl) ?_
  refine seqH.n ?_
  refine Ht.block 0 (by kernel_rfl) ?_
  refine Ht.loopS [0, 2, 3, 19, 20, 21] [] (fun k σ => ∃ i : Nat, i ≤ a0.length ∧ k = a0.length - i ∧ σ = Sm 109 [(0, .v (eL e39 a0)), (2, .ptr 0 0), (3, .ptr 1 0), (19, .v (eL e39 a0)), (20, dI (a0.length : Int)), (21, dI (i : Int))] zO ∧ vscan m (a0.drop i) i = some o) a0.length (by kernel_rfl) 2 (by kernel_rfl) ⟨0, Nat.zero_le _, rfl, by kernel_rfl, h⟩ ?_
  rintro k σ ⟨i, hi, rfl, rfl, hv⟩
  refine Ht.seq (by kernel_rfl) ?_
  refine Ht.region (hxB n) (by kernel_rfl) ?_
  refine Ops.seg' 1 1 (by kernel_rfl) ?_
  refine Ops.done (by kernel_rfl) ?_
  refine seqH.n ?_
  refine Ht.seq (by kernel_rfl) ?_
  refine Ht.cond (decide ((i : Int) < (a0.length : Int))) (by kernel_rfl) (by kernel_rfl) (fun hc => ?_) (fun hc => ?_)
  case refine_2 =>
    have hc : ¬ i < a0.length := by have := of_decide_eq_false hc; omega
    refine Ht.exit (id := 0) (by kernel_rfl) ?_
    show Ht False Proofs.Tryd.prog (cR (cR (cR C10))) _ Q
    have : a0.drop i = [] := List.drop_eq_nil_of_le (by omega)
    rw [this] at hv
    refine Ht.forget [0, 2, 3] (Ht.st ?_ (hk (Option.some.inj hv).symm))
    kernel_rfl
  have hc : i < a0.length := by have := of_decide_eq_true hc; omega
  obtain ⟨s, hs⟩ : ∃ s, a0[i]? = some s := ⟨_, List.getElem?_eq_getElem hc⟩
  have hd : a0.drop i = s :: a0.drop (i + 1) := by
    rw [List.drop_eq_getElem_cons hc]
    rw [List.getElem?_eq_getElem hc] at hs
    rw [Option.some.inj hs]
  have hix : idx a0 (i : Int) = some s := by
    unfold idx
    rw [if_pos (by omega)]
    simpa using hs
  rw [hd] at hv
  simp only [vscan] at hv
  refine Ht.skip (by kernel_rfl) ?_
  refine seqH.n ?_
  refine Ht.seq (by kernel_rfl) ?_
  refine Ht.block 1 (by kernel_rfl) ?_
  refine Ht.seq (by kernel_rfl) ?_
  refine Ht.region (hxB n) (by kernel_rfl) ?_
  refine Ops.seg' 1 1 (by kernel_rfl) ?_
  refine Ops.one' 2 (fun h0 e0 => (ix_r (T := T) h0 22 40 2 .plain e39 a0 i s hix (by kernel_rfl) (by kernel_rfl) (fun _ => rfl))) (by kernel_rfl) (by kernel_rfl) ?_
  refine Ops.seg' 4 6 (by kernel_rfl) ?_
  refine Ops.done (by kernel_rfl) ?_
  refine seqH.n ?_
  obtain ⟨va, ea, hv⟩ := bnd_some hv
  refine Ht.seq (by kernel_rfl) ?_
  refine Ht.seq (by kernel_rfl) ?_
  refine Ht.region (hxB n) (by kernel_rfl) ?_
  refine Ops.seg' 2 2 (by kernel_rfl) ?_
  refine Ops.one' 3 (fun h0 e0 => (call_ok (E' := (XB n).E) (h := h0) (by kernel_rfl) (Args.v (.str s.fWord) (eS s.fWord) (by kernel_rfl) Args.nil) (ok18 m s.fWord va ea n (by omega)))) (by kernel_rfl) (by kernel_rfl) ?_
  refine Ops.seg' 1 4 (by kernel_rfl) ?_
  refine Ops.done (by kernel_rfl) ?_
  refine seqH.n ?_
  refine Ht.cond (!va) (by kernel_rfl) (by kernel_rfl) (fun hc1 => ?_) (fun hc1 => ?_)
  · rw [hc1] at hv
    cases (cnd_t hv)
    refine Ht.seq (by kernel_rfl) ?_
    refine Ht.region (hxB n) (by kernel_rfl) ?_
    refine Ops.seg' 2 2 (by kernel_rfl) ?_
    refine Ops.one' 3 (fun h0 e0 => (call_ok (E' := (XB n).E) (h := h0) (by kernel_rfl) (Args.v (vI 5) (eI 5) (by kernel_rfl) (Args.v (vI (i : Int)) (eI (i : Int)) (by kernel_rfl) Args.nil)) (ok17 m 5 i ⟨5, i⟩ rfl n (by omega)))) (by kernel_rfl) (by kernel_rfl) ?_
    refine Ops.seg' 2 5 (by kernel_rfl) ?_
    refine Ops.done (by kernel_rfl) ?_
    refine seqH.n ?_
    refine Ht.ret (by kernel_rfl) ?_
    show Q .ret _
    exact hq _ rfl _ (res_bad ⟨5, i⟩ _ (by kernel_rfl) (by kernel_rfl) ⟨[.cells [.v (.str s.fWord), .v (.str s.fTag)]], by kernel_rfl⟩)
  rw [hc1] at hv
  have hv := cnd_f hv
  obtain ⟨vb, eb, hv⟩ := bnd_some hv
  refine Ht.skip (by kernel_rfl) ?_
  refine seqH.n ?_
  refine Ht.seq (by kernel_rfl) ?_
  refine Ht.region (hxB n) (by kernel_rfl) ?_
  refine Ops.seg' 2 2 (by kernel_rfl) ?_
  refine Ops.one' 3 (fun h0 e0 => (call_ok (E' := (XB n).E) (h := h0) (by kernel_rfl) (Args.v (.str s.fTag) (eS s.fTag) (by kernel_rfl) Args.nil) (ok19 m s.fTag vb eb n (by omega)))) (by kernel_rfl) (by kernel_rfl) ?_
  refine Ops.seg' 1 4 (by kernel_rfl) ?_
  refine Ops.done (by kernel_rfl) ?_
  refine seqH.n ?_
  refine Ht.cond (!vb) (by kernel_rfl) (by kernel_rfl) (fun hc2 => ?_) (fun hc2 => ?_)
  · rw [hc2] at hv
    cases (cnd_t hv)
    refine Ht.seq (by kernel_rfl) ?_
    refine Ht.region (hxB n) (by kernel_rfl) ?_
    refine Ops.seg' 2 2 (by kernel_rfl) ?_
    refine Ops.one' 3 (fun h0 e0 => (call_ok (E' := (XB n).E) (h := h0) (by kernel_rfl) (Args.v (vI 10) (eI 10) (by kernel_rfl) (Args.v (vI (i : Int)) (eI (i : Int)) (by kernel_rfl) Args.nil)) (ok17 m 10 i ⟨10, i⟩ rfl n (by omega)))) (by kernel_rfl) (by kernel_rfl) ?_
    refine Ops.seg' 2 5 (by kernel_rfl) ?_
    refine Ops.done (by kernel_rfl) ?_
    refine seqH.n ?_
    refine Ht.ret (by kernel_rfl) ?_
    show Q .ret _
    exact hq _ rfl _ (res_bad ⟨10, i⟩ _ (by kernel_rfl) (by kernel_rfl) ⟨[.cells [.v (.str s.fWord), .v (.str s.fTag)]], by kernel_rfl⟩)
  rw [hc2] at hv
  have hv := cnd_f hv
  have hw : w64 ((i : Int) + 1) = ((i + 1 : Nat) : Int) := by rw [w64_id (by omega)]; omega
  rw [hw] at hv
  refine Ht.skip (by kernel_rfl) ?_
  refine blkH.n ?_
  refine seqH.n ?_
  refine Ht.region (hxB n) (by kernel_rfl) ?_
  refine Ops.seg' 2 2 (by kernel_rfl) ?_
  refine Ops.done (by kernel_rfl) ?_
  refine ⟨a0.length - (i + 1), by omega, i + 1, by omega, rfl, ?_, hv⟩
  have e : ∀ x : Int, x = ((i + 1 : Nat) : Int) → Sm 109 [(0, .v (eL e39 a0)), (2, .ptr 0 0), (3, .ptr 1 0), (19, .v (eL e39 a0)), (20, dI (a0.length : Int)), (21, dI x)] zO = Sm 109 [(0, .v (eL e39 a0)), (2, .ptr 0 0), (3, .ptr 1 0), (19, .v (eL e39 a0)), (20, dI (a0.length : Int)), (21, dI ((i + 1 : Nat) : Int))] zO := fun x hx => by rw [hx]
  refine Eq.trans ?_ (e (w64 ((i : Int) + 1)) hw)
  kernel_rfl
end Go.Abs
end
section
namespace Go.Abs
set_option linter.unusedVariables false
set_option maxRecDepth 100000

theorem ldc {i : TI} {h : List AObj} {r off : Nat} {cs : List D} {d : D} (hr : h[r]? = some (.cells cs)) (hd : (cut cs off i.size).bind (mkOf i.kind.isAgg) = some d) : (loadD i h (.ptr r off)).map (·, h) = some (d, h) := by
  simp only [loadD, hr, hd, Option.map_some]
theorem stc {i : TI} {h : List AObj} {r off : Nat} {cs cs' : List D} {x : D} (hr : h[r]? = some (.cells cs)) (hs : (x.solid && x.cells.length == i.size) = true) (hc : splice cs off x.cells = some cs') : (storeD i h (.ptr r off) x).map (U, ·) = some (U, h.set r (.cells cs')) := by
  simp only [storeD, hs, if_true, hr, hc, Option.map_some]
theorem lkS {h : List AObj} {b : Nat} {l : List (ByteArray × Int)} (hb : h[b]? = some (.map (l.map keyS) (l.map valS))) (tag : ByteArray) : (lookupD T h 53 (.map b) (.v (.str tag)) false).map (·, h) = some (dI (cnt tag l), h) := by
  have e : lookupD T h 53 (.map b) (.v (.str tag)) false = (match mapKV h (.map b) with
    | none => none
    | some (ks, vs) => match keyFind T 9 (.str tag) ks 0 with
      | none => none
      | some (some j) => (vs[j]?).map fun d => d
      | some none => some (dI 0)) := rfl
  have hk : mapKV h (.map b) = some (l.map keyS, l.map valS) := by simp only [mapKV, hb]
  have hf : keyFind T 9 (.str tag) (l.map keyS) 0 = some (fidx (fun x : ByteArray × Int => tag.toList == x.1.toList) l 0) := find_str (fun x : ByteArray × Int => x.1) tag l 0
  rw [e]
  simp only [hk, hf]
  cases hx : fidx (fun x : ByteArray × Int => tag.toList == x.1.toList) l 0 with
  | none => simp only [(bump_none hx).1, Option.map_some]
  | some j =>
    obtain ⟨q, rfl, h2, _, _⟩ := bump_some hx
    simp only [Nat.zero_add, h2, Option.map_some]
theorem muS {h : List AObj} {b : Nat} {l : List (ByteArray × Int)} (hb : h[b]? = some (.map (l.map keyS) (l.map valS))) (tag : ByteArray) : (mapSetD T h 53 (.map b) (.v (.str tag)) (dI (w64 (cnt tag l + 1)))).map (U, ·) = some (U, h.set b (.map ((bumpL tag l).map keyS) ((bumpL tag l).map valS))) := by
  have e : mapSetD T h 53 (.map b) (.v (.str tag)) (dI (w64 (cnt tag l + 1))) = (match h[b]? with
      | some (.map ks vs) => (match keyFind T 9 (.str tag) ks 0 with
          | none => none
          | some (some j) => some (h.set b (.map (ks.set j (.str tag)) (vs.set j (dI (w64 (cnt tag l + 1))))))
          | some none => some (h.set b (.map (ks ++ [.str tag]) (vs ++ [dI (w64 (cnt tag l + 1))]))))
      | _ => none) := rfl
  have hf : keyFind T 9 (.str tag) (l.map keyS) 0 = some (fidx (fun x : ByteArray × Int => tag.toList == x.1.toList) l 0) := find_str (fun x : ByteArray × Int => x.1) tag l 0
  rw [e]
  simp only [hb, hf]
  cases hx : fidx (fun x : ByteArray × Int => tag.toList == x.1.toList) l 0 with
  | none =>
    obtain ⟨h1, h2⟩ := bump_none hx
    simp only [h1, h2, Option.map_some, List.map_append, List.map_cons, List.map_nil, keyS, valS]
  | some j =>
    obtain ⟨q, rfl, _, h3, h4⟩ := bump_some hx
    simp only [Nat.zero_add, h3, h4, Option.map_some]
theorem fidx_mem {x : Int} {ks : List Int} (h : x ∈ ks) (i : Nat) : ∃ q, fidx (fun y => x == y) ks i = some (i + q) ∧ ks[q]? = some x := by
  cases hx : fidx (fun y => x == y) ks i with
  | none => have := fidx_none hx x h; simp at this
  | some j =>
    obtain ⟨q, y, h1, h2, h3⟩ := fidx_some hx
    have : x = y := by simpa using h3
    subst this
    exact ⟨q, by rw [h1], h2⟩
theorem fidx_nmem {x : Int} {ks : List Int} (h : x ∉ ks) (i : Nat) : fidx (fun y => x == y) ks i = none := by
  cases hx : fidx (fun y => x == y) ks i with
  | none => rfl
  | some j =>
    obtain ⟨q, y, h1, h2, h3⟩ := fidx_some hx
    have : x = y := by simpa using h3
    subst this
    exact absurd (List.mem_of_getElem? h2) h
theorem lkI {h : List AObj} {a : Nat} {ks : List Int} {f : Int → D} (ha : h[a]? = some (.map (ks.map keyI) (ks.map f))) {x : Int} (hx : x ∈ ks) : (lookupD T h 52 (.map a) (.v (.int .i64 x)) false).map (·, h) = some (f x, h) := by
  have e : lookupD T h 52 (.map a) (.v (.int .i64 x)) false = (match mapKV h (.map a) with
    | none => none
    | some (ks, vs) => match keyFind T 3 (.int .i64 x) ks 0 with
      | none => none
      | some (some j) => (vs[j]?).map fun d => d
      | some none => some (.v .nilptr)) := rfl
  have hk : mapKV h (.map a) = some (ks.map keyI, ks.map f) := by simp only [mapKV, ha]
  have hf : keyFind T 3 (.int .i64 x) (ks.map keyI) 0 = some (fidx (fun y => x == y) ks 0) := find_int x ks 0
  rw [e]
  obtain ⟨q, h1, h2⟩ := fidx_mem hx 0
  simp only [hk, hf, h1, Nat.zero_add, List.getElem?_map, h2, Option.map_some]
theorem lkN {h : List AObj} {a : Nat} {ks : List Int} {f : Int → D} (ha : h[a]? = some (.map (ks.map keyI) (ks.map f))) {x : Int} (hx : x ∉ ks) : (lookupD T h 52 (.map a) (.v (.int .i64 x)) false).map (·, h) = some (.v .nilptr, h) := by
  have e : lookupD T h 52 (.map a) (.v (.int .i64 x)) false = (match mapKV h (.map a) with
    | none => none
    | some (ks, vs) => match keyFind T 3 (.int .i64 x) ks 0 with
      | none => none
      | some (some j) => (vs[j]?).map fun d => d
      | some none => some (.v .nilptr)) := rfl
  have hk : mapKV h (.map a) = some (ks.map keyI, ks.map f) := by simp only [mapKV, ha]
  have hf : keyFind T 3 (.int .i64 x) (ks.map keyI) 0 = some (fidx (fun y => x == y) ks 0) := find_int x ks 0
  rw [e]
  simp only [hk, hf, fidx_nmem hx, Option.map_some]
theorem muI {h : List AObj} {a : Nat} {ks : List Int} {vs : List D} (ha : h[a]? = some (.map (ks.map keyI) vs)) {x : Int} (hx : x ∉ ks) (d : D) : (mapSetD T h 52 (.map a) (.v (.int .i64 x)) d).map (U, ·) = some (U, h.set a (.map ((ks ++ [x]).map keyI) (vs ++ [d]))) := by
  have e : mapSetD T h 52 (.map a) (.v (.int .i64 x)) d = (match h[a]? with
      | some (.map ks vs) => (match keyFind T 3 (.int .i64 x) ks 0 with
          | none => none
          | some (some j) => some (h.set a (.map (ks.set j (.int .i64 x)) (vs.set j d)))
          | some none => some (h.set a (.map (ks ++ [.int .i64 x]) (vs ++ [d]))))
      | _ => none) := rfl
  have hf : keyFind T 3 (.int .i64 x) (ks.map keyI) 0 = some (fidx (fun y => x == y) ks 0) := find_int x ks 0
  rw [e]
  simp only [ha, hf, fidx_nmem hx, Option.map_some, List.map_append, List.map_cons, List.map_nil, keyI]
/-- cells stay where maps are written -/
theorem cells_stay {h : List AObj} {n b : Nat} {cs : List D} {ks : List V} {vs : List D} {o : AObj} (hn : h[n]? = some (.cells cs)) (hb : h[b]? = some (.map ks vs)) : (h.set b o)[n]? = some (.cells cs) := by
  have : b ≠ n := fun e => by subst e; rw [hn] at hb; cases hb
  rw [List.getElem?_set_ne this]; exact hn
theorem app_get {h e : List AObj} {n : Nat} {o : AObj} (hn : h[n]? = some o) : (h ++ e)[n]? = some o := by
  rw [List.getElem?_append_left (lt_of_getElem? hn)]; exact hn

/-- a load and a call that only lays new memory -/
theorem swap_fresh {E : Env} {Γ : Calling} {ops : Array Oper} {x y : Oper} {t a dx dy f : Nat} (hx : (x.op, x.dst, x.guard) = (.load t (.tmp a), some dx, none)) (hy : (y.op, y.dst, y.guard) = (.call { callee := .value (.func f), args := #[], argTypes := #[] }, some dy, none))
    (hp : E.pureF f = false) (hΓ : ∀ h d h', Γ f [] h = some (d, h') → ∃ e, h' = h ++ e) (hne : a ≠ dy) (hd : dx ≠ dy) : SwapOk E Γ ops x y := by
  simp only [Prod.mk.injEq] at hx hy
  obtain ⟨x1, x2, x3⟩ := hx
  obtain ⟨y1, y2, y3⟩ := hy
  intro σ σ1 σ2 g1 g2
  simp only [aop, aeff, aguard, x3, x1, ares] at g1
  cases hT : E.T t with
  | none => rw [hT] at g1; simp at g1
  | some i =>
  rw [hT] at g1
  simp only at g1
  cases hl : loadD i σ.heap (σ.ev (.tmp a)) with
  | none => rw [hl] at g1; simp at g1
  | some d =>
  rw [hl] at g1
  simp only [Option.map_some, Option.some.injEq] at g1
  subst g1
  have hc : ∀ τ : St, aop E Γ ops.toList y τ = (match Γ f [] τ.heap with | some (d, h) => some (τ.put y.dst d h) | none => none) := by
    intro τ
    simp only [aop, aeff, aguard, y3, y1, ares, St.ev, cloOf, callD, hp, Bool.false_eq_true, if_false, argsD, List.append_nil, List.map_nil]
    cases Γ f [] τ.heap <;> rfl
  rw [hc] at g2 ⊢
  have hh : (σ.put x.dst d σ.heap).heap = σ.heap := by rw [x2]; rfl
  rw [hh] at g2
  cases hg : Γ f [] σ.heap with
  | none => rw [hg] at g2; simp at g2
  | some p =>
  obtain ⟨d', h'⟩ := p
  rw [hg] at g2
  simp only [Option.some.injEq] at g2
  subst g2
  obtain ⟨e, rfl⟩ := hΓ _ _ _ hg
  refine ⟨_, rfl, ?_⟩
  have hev : (σ.put y.dst d' (σ.heap ++ e)).ev (.tmp a) = σ.ev (.tmp a) := by
    rw [y2]
    simp only [St.ev, St.put, List.getD]
    rw [List.getElem?_set_ne (Ne.symm hne)]
  have hh2 : (σ.put y.dst d' (σ.heap ++ e)).heap = σ.heap ++ e := by rw [y2]; rfl
  simp only [aop, aeff, aguard, x3, x1, ares, hT, hh2, hev, loadD_app e hl, Option.map_some]
  congr 1
  rw [x2, y2]
  simp only [St.put, St.mk.injEq, and_true]
  exact List.set_comm _ _ (Ne.symm hd)
end Go.Abs
end
section
namespace Go.Abs
set_option linter.unusedVariables false
set_option maxRecDepth 100000

def insFrom (t : ByteArray) : Nat → Gz → List Int → List Int → Gz
  | 0, g, _, _ => g
  | _ + 1, g, _, [] => g
  | d + 1, g, p, x :: r => insFrom t d ((g.addK p x).bump (p ++ [x]) t) (p ++ [x]) r
structure Hp (H : List AObj) (rs : Nat) (word tag : ByteArray) (R : Nat) : Prop where
  c0 : H[0]? = some (.cells [.v .nilptr])
  c1 : H[1]? = some (.cells [dI 0, dI 0])
  c5 : H[5]? = some (.cells [.ptr R 0])
  cs : H[rs]? = some (.cells [.v (.str word), .v (.str tag)])
theorem Hp.set {H : List AObj} {rs R b : Nat} {word tag : ByteArray} {ks : List V} {vs : List D} (h : Hp H rs word tag R) (hb : H[b]? = some (.map ks vs)) (o : AObj) : Hp (H.set b o) rs word tag R :=
  ⟨cells_stay h.c0 hb, cells_stay h.c1 hb, cells_stay h.c5 hb, cells_stay h.cs hb⟩
theorem Hp.app {H : List AObj} {rs R : Nat} {word tag : ByteArray} (h : Hp H rs word tag R) (e : List AObj) : Hp (H ++ e) rs word tag R :=
  ⟨app_get h.c0, app_get h.c1, app_get h.c5, app_get h.cs⟩

/-- the state in the loop over a word's letters -/
def SmB (A : D) (len i : Int) (rs : Nat) (l : V) (r : Nat) (k : Int) (H : List AObj) : St :=
  Sm 109 [(0, A), (2, .ptr 0 0), (3, .ptr 1 0), (6, .ptr 5 0), (8, .ptr rs 0), (9, .v l), (11, .ptr r 0), (12, dI k), (43, A), (44, dI len), (45, dI i)] H
def SmA (A : D) (len i : Int) (H : List AObj) : St := Sm 109 [(0, A), (2, .ptr 0 0), (3, .ptr 1 0), (6, .ptr 5 0), (43, A), (44, dI len), (45, dI i)] H
noncomputable def L4 : Code := (cL (cR (cR (cR (cR (cR (cL (cL (cR (cR (cL (cL (cR (cL (cR (cR (cR (cR C10))))))))))))))))))
abbrev kB : List Nat := [0, 2, 3, 6, 8, 9, 11, 12, 43, 44, 45]
abbrev kA : List Nat := [0, 2, 3, 6, 43, 44, 45]

/-- the count at a node goes up -/
theorem node25 (n : Nat) (A : D) (len i : Int) (rs R : Nat) (word tag : ByteArray) (l : List Int) (k : Int) (H : List AObj) (loc : Loc) (g : Gz) (p : List Int) (c a' b' : Nat) {Q : Post} (t' : Tr 2 H loc g) (hp' : Hp H rs word tag R) (hc' : loc p = some (c, a', b'))
    (hq' : ∀ σ, Abs.forget kB σ = SmB A len i rs (eL eI l) c k (H.set b' (.map ((bumpL tag (g.cs p)).map keyS) ((bumpL tag (g.cs p)).map valS))) → Q .normal σ) :
    Ht False Proofs.Tryd.prog (cR (cR (cR (cL (cL (cR (cL L4))))))) (SmB A len i rs (eL eI l) c k H) Q := by
  refine Ht.region (hxB n) (by kernel_rfl) ?_
  refine Ops.seg' 3 3 (by kernel_rfl) ?_
  refine Ops.one' 4 (fun h0 e0 => (ldc (i := ti53) (h := h0) (r := c) (off := 1) (cs := [.map a', .map b']) (d := .map b') (hq_of (g := H) (e0.trans (by kernel_rfl)) (t'.cell _ _ _ _ hc')) (by rfl))) (by kernel_rfl) (by kernel_rfl) ?_
  refine Ops.seg' 1 5 (by kernel_rfl) ?_
  refine Ops.one' 6 (fun h0 e0 => (ldc (i := ti9) (h := h0) (r := rs) (off := 1) (cs := [.v (.str word), .v (.str tag)]) (d := .v (.str tag)) (hq_of (g := H) (e0.trans (by kernel_rfl)) (hp'.cs)) (by rfl))) (by kernel_rfl) (by kernel_rfl) ?_
  refine Ops.one' 7 (fun h0 e0 => (lkS (h := h0) (b := b') (l := g.cs p) (hq_of (g := H) (e0.trans (by kernel_rfl)) (t'.cnts _ _ _ _ hc')) tag)) (by kernel_rfl) (by kernel_rfl) ?_
  refine Ops.seg' 1 8 (by kernel_rfl) ?_
  refine Ops.one' 9 (fun h0 e0 => (muS (h := h0) (b := b') (l := g.cs p) (hq_of (g := H) (e0.trans (by kernel_rfl)) (t'.cnts _ _ _ _ hc')) tag)) (by kernel_rfl) (by kernel_rfl) ?_
  refine Ops.done (by kernel_rfl) ?_
  exact hq' _ (by kernel_rfl)
/-- down to the next node -/
theorem node24 (n : Nat) (A : D) (len i : Int) (rs R : Nat) (word tag : ByteArray) (l : List Int) (k : Int) (x : Int) (H : List AObj) (loc : Loc) (g : Gz) (p : List Int) (r a b c a' b' : Nat) {Q : Post} (t' : Tr 2 H loc g) (hp' : Hp H rs word tag R) (hl' : loc p = some (r, a, b)) (hk' : x ∈ g.ks p) (hc' : loc (p ++ [x]) = some (c, a', b'))
    (hq' : ∀ σ, Abs.forget kB σ = SmB A len i rs (eL eI l) c k (H.set b' (.map ((bumpL tag (g.cs (p ++ [x]))).map keyS) ((bumpL tag (g.cs (p ++ [x]))).map valS))) → Q .normal σ) :
    Ht False Proofs.Tryd.prog (cR (cR (cL (cL (cR (cL L4)))))) (Sm 109 [(0, A), (2, .ptr 0 0), (3, .ptr 1 0), (6, .ptr 5 0), (8, .ptr rs 0), (9, .v (eL eI l)), (11, .ptr r 0), (12, dI k), (13, dI x), (43, A), (44, dI len), (45, dI i)] H) Q := by
  have hrt : rt loc (p ++ [x]) = c := by simp [rt, hc']
  have hn' := t'.next _ _ _ _ hl'
  refine Ht.seq (by kernel_rfl) ?_
  refine Ht.region (hxB n) (by kernel_rfl) ?_
  refine Ops.seg' 3 3 (by kernel_rfl) ?_
  refine Ops.one' 4 (fun h0 e0 => (ldc (i := ti52) (h := h0) (r := r) (off := 0) (cs := [.map a, .map b]) (d := .map a) (hq_of (g := H) (e0.trans (by kernel_rfl)) (t'.cell _ _ _ _ hl')) (by rfl))) (by kernel_rfl) (by kernel_rfl) ?_
  refine Ops.seg' 1 5 (by kernel_rfl) ?_
  refine Ops.one' 6 (fun h0 e0 => (lkI (h := h0) (a := a) (ks := g.ks p) (f := fun y => .ptr (rt loc (p ++ [y])) 0) (hq_of (g := H) (e0.trans (by kernel_rfl)) (hn')) hk')) (by kernel_rfl) (by kernel_rfl) ?_
  refine Ops.seg' 1 7 (by kernel_rfl) ?_
  refine Ops.done (by kernel_rfl) ?_
  refine seqH.n ?_
  refine Ht.forget kB (Ht.st (σ' := SmB A len i rs (eL eI l) (rt loc (p ++ [x])) k H) (by kernel_rfl) ?_)
  rw [hrt]
  exact node25 n A len i rs R word tag l k H loc g (p ++ [x]) c a' b' t' hp' hc' hq'

abbrev kC : List Nat := [0, 2, 3, 6, 8, 9, 11, 12, 13, 43, 44, 45]
def SmC (A : D) (len i : Int) (rs : Nat) (l : V) (r : Nat) (k x : Int) (H : List AObj) : St :=
  Sm 109 [(0, A), (2, .ptr 0 0), (3, .ptr 1 0), (6, .ptr 5 0), (8, .ptr rs 0), (9, .v l), (11, .ptr r 0), (12, dI k), (13, dI x), (43, A), (44, dI len), (45, dI i)] H

/-- the node is made -/
theorem node23 (n : Nat) (A : D) (len i : Int) (rs : Nat) (l : List Int) (k : Int) (x : Int) (H : List AObj) (loc : Loc) (g : Gz) (p : List Int) (r a b : Nat) {Q : Post} (t : Tr 2 H loc g) (hl : loc p = some (r, a, b)) (hx : x ∉ g.ks p)
    (hq : ∀ σ, Abs.forget kC σ = SmC A len i rs (eL eI l) r k x ((H ++ [AObj.map [] [], .map [] [], .cells [.map H.length, .map (H.length + 1)]]).set a (AObj.map ((g.ks p ++ [x]).map keyI) (((g.ks p).map fun y => .ptr (rt loc (p ++ [y])) 0) ++ [.ptr (H.length + 2) 0]))) → Q .normal σ) :
    Ht False Proofs.Tryd.prog (cL (cR (cL (cR (cL (cL (cR (cL L4)))))))) (SmC A len i rs (eL eI l) r k x H) Q := by
  refine Ht.regionX (hxB (n + 1)) 3 5 (by kernel_rfl) (fun y z hy hz => ?_) ?_
  · have h3 : ((opsOf (cL (cR (cL (cR (cL (cL (cR (cL L4)))))))))[3]?).map (fun o => (o.op, o.dst, o.guard)) = some (.load 52 (.tmp 88), some 89, none) := by kernel_rfl
    have h5 : ((opsOf (cL (cR (cL (cR (cL (cL (cR (cL L4)))))))))[5]?).map (fun o => (o.op, o.dst, o.guard)) = some (.call { callee := .value (.func 20), args := #[], argTypes := #[] }, some 91, none) := by kernel_rfl
    rw [hy] at h3
    rw [hz] at h5
    refine swap_fresh (Option.some.inj h3) (Option.some.inj h5) (by kernel_rfl) (fun h d h' hg => ?_) (by decide) (by decide)
    have hg : run Proofs.Tryd.prog E (n + 1) 20 [] h = some (d, h') := hg
    rw [fresh_run] at hg
    cases hg
    exact ⟨_, rfl⟩
  refine Ops.seg' 3 3 (by kernel_rfl) ?_
  refine Ops.one' 4 (fun h0 e0 => (ldc (i := ti52) (h := h0) (r := r) (off := 0) (cs := [.map a, .map b]) (d := .map a) (hq_of (g := H) (e0.trans (by kernel_rfl)) (t.cell _ _ _ _ hl)) (by rfl))) (by kernel_rfl) (by kernel_rfl) ?_
  refine Ops.seg' 1 5 (by kernel_rfl) ?_
  refine Ops.one' 6 (fun h0 e0 => (fresh_run n h0)) (by kernel_rfl) (by kernel_rfl) ?_
  refine Ops.one' 7 (fun h0 e0 => (muI (h := h0) (a := a) (ks := g.ks p) (vs := (g.ks p).map fun y => .ptr (rt loc (p ++ [y])) 0) (hq_of (g := H ++ [AObj.map [] [], .map [] [], .cells [.map H.length, .map (H.length + 1)]]) (e0.trans (by kernel_rfl)) (app_get (t.next _ _ _ _ hl))) hx (.ptr (H.length + 2) 0))) (by kernel_rfl) (by kernel_rfl) ?_
  refine Ops.done (by kernel_rfl) ?_
  exact hq _ (by kernel_rfl)

theorem node22 (n : Nat) (A : D) (len i : Int) (rs R : Nat) (word tag : ByteArray) (l : List Int) (k : Int) (x : Int) (H : List AObj) (loc : Loc) (g : Gz) (p : List Int) (r a b : Nat) {Q : Post} (t : Tr 2 H loc g) (hp : Hp H rs word tag R) (hR : (loc []).map (·.1) = some R) (hl : loc p = some (r, a, b))
    (hq : ∀ H' loc' c a' b', Tr 2 H' loc' (g.addK p x) → Hp H' rs word tag R → (loc' []).map (·.1) = some R → loc' (p ++ [x]) = some (c, a', b') → ∀ σ, Abs.forget kB σ = SmB A len i rs (eL eI l) c k (H'.set b' (.map ((bumpL tag (g.cs (p ++ [x]))).map keyS) ((bumpL tag (g.cs (p ++ [x]))).map valS))) → Q .normal σ) :
    Ht False Proofs.Tryd.prog (cR (cL (cL (cR (cL L4))))) (SmC A len i rs (eL eI l) r k x H) Q := by
  refine Ht.seq (by kernel_rfl) ?_
  refine Ht.seq (by kernel_rfl) ?_
  refine Ht.region (hxB (n + 1)) (by kernel_rfl) ?_
  refine Ops.seg' 3 3 (by kernel_rfl) ?_
  refine Ops.one' 4 (fun h0 e0 => (ldc (i := ti52) (h := h0) (r := r) (off := 0) (cs := [.map a, .map b]) (d := .map a) (hq_of (g := H) (e0.trans (by kernel_rfl)) (t.cell _ _ _ _ hl)) (by rfl))) (by kernel_rfl) (by kernel_rfl) ?_
  refine Ops.seg' 1 5 (by kernel_rfl) ?_
  by_cases hx : x ∈ g.ks p
  · refine Ops.one' 6 (fun h0 e0 => (lkI (h := h0) (a := a) (ks := g.ks p) (f := fun y => .ptr (rt loc (p ++ [y])) 0) (hq_of (g := H) (e0.trans (by kernel_rfl)) (t.next _ _ _ _ hl)) hx)) (by kernel_rfl) (by kernel_rfl) ?_
    refine Ops.seg' 1 7 (by kernel_rfl) ?_
    refine Ops.done (by kernel_rfl) ?_
    refine seqH.n ?_
    refine Ht.cond false (by kernel_rfl) (by kernel_rfl) (fun hc => nomatch hc) (fun _ => ?_)
    refine Ht.skip (by kernel_rfl) ?_
    refine seqH.n ?_
    obtain ⟨⟨c, a', b'⟩, hc'⟩ : ∃ z, loc (p ++ [x]) = some z := Option.isSome_iff_exists.1 (t.kid p x hx)
    rw [Gz.addK_mem hx] at hq
    refine Ht.forget kC (Ht.st (σ' := SmC A len i rs (eL eI l) r k x H) (by kernel_rfl) ?_)
    exact node24 (n + 1) A len i rs R word tag l k x H loc g p r a b c a' b' t hp hl hx hc' (hq H loc c a' b' t hp hR hc')
  · refine Ops.one' 6 (fun h0 e0 => (lkN (h := h0) (a := a) (ks := g.ks p) (f := fun y => .ptr (rt loc (p ++ [y])) 0) (hq_of (g := H) (e0.trans (by kernel_rfl)) (t.next _ _ _ _ hl)) hx)) (by kernel_rfl) (by kernel_rfl) ?_
    refine Ops.seg' 1 7 (by kernel_rfl) ?_
    refine Ops.done (by kernel_rfl) ?_
    refine seqH.n ?_
    refine Ht.cond true (by kernel_rfl) (by kernel_rfl) (fun _ => ?_) (fun hc => nomatch hc)
    refine Ht.forget kC (Ht.st (σ' := SmC A len i rs (eL eI l) r k x H) (by kernel_rfl) ?_)
    refine node23 n A len i rs l k x H loc g p r a b t hl hx fun σ hσ => ?_
    refine seqH.n ?_
    refine Ht.forget kC (Ht.st hσ ?_)
    have hlen : 2 ≤ H.length := by have := lt_of_getElem? hp.c1; omega
    have ht2 := t.grow hl hx hlen
    have hpne : p ≠ p ++ [x] := fun e => by have := congrArg List.length e; simp at this
    have hn0 : ([] : List Int) ≠ p ++ [x] := by simp
    have hk2 : x ∈ (g.addK p x).ks p := by simp [Gz.addK, hx]
    have hp2 := (hp.app [AObj.map [] [], .map [] [], .cells [.map H.length, .map (H.length + 1)]]).set (app_get (t.next _ _ _ _ hl)) (AObj.map ((g.ks p ++ [x]).map keyI) (((g.ks p).map fun y => .ptr (rt loc (p ++ [y])) 0) ++ [.ptr (H.length + 2) 0]))
    exact node24 (n + 1) A len i rs R word tag l k x _ _ _ p r a b (H.length + 2) H.length (H.length + 1) ht2 hp2 (by rw [if_neg hpne]; exact hl) hk2 (by rw [if_pos rfl])
      (hq _ _ (H.length + 2) H.length (H.length + 1) ht2 hp2 (by rw [if_neg hn0]; exact hR) (by rw [if_pos rfl]))

theorem inner (n : Nat) (hn : 1 ≤ n) (A : D) (len i : Int) (rs R : Nat) (word tag : ByteArray) (l : List Int) (hl : l.length ≤ 9223372036854775807) (tgt : Gz) {Q : Post}
    (hq : ∀ H loc, Tr 2 H loc tgt → Hp H rs word tag R → (loc []).map (·.1) = some R → ∀ σ, Abs.forget kA σ = SmA A len i H → Q (.exit 4) σ)
    (H : List AObj) (loc : Loc) (g : Gz) (r a b : Nat) (ht : Tr 2 H loc g) (hp : Hp H rs word tag R) (hR : (loc []).map (·.1) = some R) (h0 : loc [] = some (r, a, b)) (hg : insFrom tag 5 g [] l.reverse = tgt) :
    Ht False Proofs.Tryd.prog L4 (SmB A len i rs (eL eI l) r 1 H) Q := by
  refine Ht.loop (fun k σ => ∃ (j : Nat) (H : List AObj) (loc : Loc) (g : Gz) (r a b : Nat), k = 6 - j ∧ j ≤ 5 ∧ j ≤ l.length ∧ Abs.forget kB σ = SmB A len i rs (eL eI l) r (j + 1) H ∧ Tr 2 H loc g ∧ Hp H rs word tag R ∧ (loc []).map (·.1) = some R ∧ loc (l.reverse.take j) = some (r, a, b) ∧ insFrom tag (5 - j) g (l.reverse.take j) (l.reverse.drop j) = tgt)
    6 (by kernel_rfl) ⟨0, H, loc, g, r, a, b, rfl, by omega, by omega, by kernel_rfl, ht, hp, hR, h0, hg⟩ ?_
  clear ht hp hR h0 hg H loc g r a b
  rintro k σ ⟨j, H, loc, g, r, a, b, rfl, hj5, hjl, hσ0, ht, hp, hR, hloc, hg⟩
  refine Ht.forget kB (Ht.st hσ0 ?_)
  clear hσ0
  refine Ht.seq (by kernel_rfl) ?_
  refine Ht.seq (by kernel_rfl) ?_
  refine Ht.region (hxB n) (by kernel_rfl) ?_
  refine Ops.seg' 2 2 (by kernel_rfl) ?_
  refine Ops.one' 3 (fun h0 e0 => (len_r (T := T) h0 41 3 .plain eI l (by kernel_rfl))) (by kernel_rfl) (by kernel_rfl) ?_
  refine Ops.seg' 2 5 (by kernel_rfl) ?_
  refine Ops.done (by kernel_rfl) ?_
  refine seqH.n ?_
  refine Ht.cond (decide ((j : Int) + 1 ≤ (if (l.length : Int) < 5 then (l.length : Int) else 5))) (by kernel_rfl) (by kernel_rfl) (fun hc => ?_) (fun hc => ?_)
  case refine_2 =>
    have hc := of_decide_eq_false hc
    refine Ht.exit (id := 4) (by kernel_rfl) ?_
    show Q (.exit 4) _
    have hend : g = tgt := by
      rw [← hg]
      by_cases h5 : j = 5
      · subst h5; rfl
      · have hjl' : j = l.length := by
          by_cases hl5 : (l.length : Int) < 5
          · rw [if_pos hl5] at hc; omega
          · rw [if_neg hl5] at hc; omega
        have : l.reverse.drop j = [] := List.drop_eq_nil_of_le (by simp; omega)
        rw [this]
        obtain ⟨q, hq'⟩ : ∃ q, 5 - j = q + 1 := ⟨4 - j, by omega⟩
        rw [hq']; rfl
    subst hend
    exact hq H loc ht hp hR _ (by kernel_rfl)
  have hc := of_decide_eq_true hc
  have hj5' : j < 5 := by split at hc <;> omega
  have hjl' : j < l.length := by split at hc <;> omega
  obtain ⟨x, hx⟩ : ∃ x, l.reverse[j]? = some x := ⟨_, List.getElem?_eq_getElem (by simp; omega)⟩
  have hdrop : l.reverse.drop j = x :: l.reverse.drop (j + 1) := by
    rw [List.drop_eq_getElem_cons (by simp; omega)]
    rw [List.getElem?_eq_getElem (by simp; omega)] at hx
    rw [Option.some.inj hx]
  have htake : l.reverse.take (j + 1) = l.reverse.take j ++ [x] := by
    rw [List.take_add_one, hx]; rfl
  have hix : idx l (w64 ((l.length : Int) - ((j : Int) + 1))) = some x := by
    rw [w64_id (by omega)]
    unfold idx
    rw [if_pos (by omega)]
    rw [List.getElem?_reverse hjl'] at hx
    have : ((l.length : Int) - ((j : Int) + 1)).toNat = l.length - 1 - j := by omega
    rw [this]; exact hx
  have hcell := ht.cell _ _ _ _ hloc
  have hnext := ht.next _ _ _ _ hloc
  generalize hP : l.reverse.take j = p at *
  refine Ht.skip (by kernel_rfl) ?_
  refine seqH.n ?_
  refine Ht.seq (by kernel_rfl) ?_
  refine Ht.block 5 (by kernel_rfl) ?_
  refine Ht.seq (by kernel_rfl) ?_
  refine Ht.region (hxB n) (by kernel_rfl) ?_
  refine Ops.seg' 2 2 (by kernel_rfl) ?_
  refine Ops.one' 3 (fun h0 e0 => (len_r (T := T) h0 41 3 .plain eI l (by kernel_rfl))) (by kernel_rfl) (by kernel_rfl) ?_
  refine Ops.seg' 2 5 (by kernel_rfl) ?_
  refine Ops.one' 6 (fun h0 e0 => (ix_r (T := T) h0 41 3 1 .plain eI l (w64 ((l.length : Int) - ((j : Int) + 1))) x hix (by kernel_rfl) (by kernel_rfl) (fun _ => rfl))) (by kernel_rfl) (by kernel_rfl) ?_
  refine Ops.seg' 2 8 (by kernel_rfl) ?_
  refine Ops.done (by kernel_rfl) ?_
  refine seqH.n ?_
  refine Ht.forget kC (Ht.st (σ' := SmC A len i rs (eL eI l) r (j + 1) x H) (by kernel_rfl) ?_)
  obtain ⟨n, rfl⟩ : ∃ q, n = q + 1 := ⟨n - 1, by omega⟩
  refine node22 n A len i rs R word tag l (j + 1) x H loc g p r a b ht hp hR hloc fun H' loc' c a' b' t' hp' hR' hc' σ hσ => ?_
  refine blkH.n ?_
  refine seqH.n ?_
  refine Ht.forget kB (Ht.st hσ ?_)
  refine Ht.region (hxB (n + 1)) (by kernel_rfl) ?_
  refine Ops.seg' 3 3 (by kernel_rfl) ?_
  refine Ops.done (by kernel_rfl) ?_
  have hw : w64 (((j : Int) + 1) + 1) = ((j + 1 : Nat) : Int) + 1 := by rw [w64_id (by omega)]; omega
  refine ⟨6 - (j + 1), by omega, j + 1, _, loc', (g.addK p x).bump (p ++ [x]) tag, c, a', b', rfl, by omega, by omega, ?_, t'.bump hc' tag, hp'.set (t'.cnts _ _ _ _ hc') _, hR', by rw [htake]; exact hc', ?_⟩
  · have e : ∀ y : Int, y = ((j + 1 : Nat) : Int) + 1 → SmB A len i rs (eL eI l) c y (H'.set b' (.map ((bumpL tag (g.cs (p ++ [x]))).map keyS) ((bumpL tag (g.cs (p ++ [x]))).map valS))) = SmB A len i rs (eL eI l) c (((j + 1 : Nat) : Int) + 1) (H'.set b' (.map ((bumpL tag (g.cs (p ++ [x]))).map keyS) ((bumpL tag (g.cs (p ++ [x]))).map valS))) := fun y hy => by rw [hy]
    refine Eq.trans ?_ (e (w64 (((j : Int) + 1) + 1)) hw)
    kernel_rfl
  · rw [htake, ← hg, hdrop, show 5 - j = (5 - (j + 1)) + 1 by omega]
    rfl
end Go.Abs
end
section
namespace Go.Abs
set_option linter.unusedVariables false
set_option maxRecDepth 100000

def insG (g : Gz) (x : List Int × ByteArray) : Gz := insFrom x.2 5 (g.bump [] x.2) [] x.1
def buildG (xs : List (List Int × ByteArray)) : Gz := xs.foldl insG Gz.empty
def pscan (m : Nat) : List S39 → Option (List (List Int × ByteArray))
  | [] => some []
  | s :: r => bnd (f21 m s.fWord) fun v => bnd (pscan m r) fun xs => some ((v.1.reverse, s.fTag) :: xs)

/-! ### no node lies deeper than five letters -/
def Gz.flat5 (g : Gz) : Prop := ∀ q, 5 ≤ q.length → g.ks q = []
theorem insFrom_flat (t : ByteArray) : ∀ (d : Nat) (g : Gz) (p l : List Int), p.length + d = 5 → g.flat5 → (insFrom t d g p l).flat5
  | 0, g, p, l, _, h => by simpa [insFrom] using h
  | d + 1, g, p, [], _, h => h
  | d + 1, g, p, x :: r, hp, h => by
    refine insFrom_flat t d _ _ r (by simp; omega) fun q hq => ?_
    have hne : q ≠ p := fun e => by subst e; omega
    show (g.addK p x).ks q = []
    simp only [Gz.addK, if_neg hne]
    exact h q hq
theorem buildG_flat (xs : List (List Int × ByteArray)) : (buildG xs).flat5 := by
  have : ∀ (xs : List (List Int × ByteArray)) (g : Gz), g.flat5 → (xs.foldl insG g).flat5 := by
    intro xs
    induction xs with
    | nil => exact fun g h => h
    | cons x r ih => exact fun g h => ih _ (insFrom_flat x.2 5 _ [] x.1 rfl h)
  exact this xs _ fun q _ => rfl
theorem allM_map {α β γ : Type} {f : β → Option γ} {k : α → β} {r : α → γ} : ∀ (l : List α), (∀ x ∈ l, f (k x) = some (r x)) → allM f (l.map k) = some (l.map r)
  | [], _ => rfl
  | x :: l, h => by
    simp only [List.map_cons, allM, h x List.mem_cons_self, allM_map l fun y hy => h y (List.mem_cons_of_mem _ hy)]
theorem frz_tree {L : Nat} {H : List AObj} {loc : Loc} {g : Gz} (t : Tr L H loc g) (hd : g.flat5) : ∀ (d : Nat) (p : List Int) (r a b : Nat), loc p = some (r, a, b) → p.length + d = 5 → frz H (2 * d + 3) (.ptr r 0) = some (treeV g d p) := by
  intro d
  induction d with
  | zero =>
    intro p r a b hp hl
    have h1 := t.cell _ _ _ _ hp
    have h2 := t.next _ _ _ _ hp
    have h3 := t.cnts _ _ _ _ hp
    rw [hd p (by omega)] at h2
    have h4 : allM (frz H 1) ((g.cs p).map valS) = some ((g.cs p).map fun x => V.int .i64 x.2) := allM_map _ fun x _ => rfl
    simp only [Nat.mul_zero, Nat.zero_add, frz, h1, allM, h2, h3, List.map_nil, h4, Option.map_some]
    rfl
  | succ d ih =>
    intro p r a b hp hl
    have h1 := t.cell _ _ _ _ hp
    have h2 := t.next _ _ _ _ hp
    have h3 := t.cnts _ _ _ _ hp
    have h4 : allM (frz H (2 * d + 3)) ((g.cs p).map valS) = some ((g.cs p).map fun x => V.int .i64 x.2) := allM_map _ fun x _ => rfl
    have h5 : allM (frz H (2 * d + 3)) ((g.ks p).map fun x => D.ptr (rt loc (p ++ [x])) 0) = some ((g.ks p).map fun x => treeV g d (p ++ [x])) := allM_map _ fun x hx => by
      obtain ⟨⟨c, a', b'⟩, hc⟩ := Option.isSome_iff_exists.1 (t.kid p x hx)
      have : rt loc (p ++ [x]) = c := by simp [rt, hc]
      rw [this]
      exact ih (p ++ [x]) c a' b' hc (by simp; omega)
    have e : 2 * (d + 1) + 3 = (2 * d + 3) + 1 + 1 := by omega
    rw [e]
    simp only [frz, h1, allM, h2, h3, h4, h5, Option.map_some]
    rfl

structure HpA (H : List AObj) (R : Nat) : Prop where
  c0 : H[0]? = some (.cells [.v .nilptr])
  c1 : H[1]? = some (.cells [dI 0, dI 0])
  c5 : H[5]? = some (.cells [.ptr R 0])
theorem HpA.app {H : List AObj} {R : Nat} (h : HpA H R) (e : List AObj) : HpA (H ++ e) R := ⟨app_get h.c0, app_get h.c1, app_get h.c5⟩
/-- a new cell that is written at once -/
def lay (H : List AObj) (z x : List D) : List AObj := (H ++ [AObj.cells z]).set H.length (AObj.cells x)
theorem lay_eq (H : List AObj) (z x : List D) : lay H z x = H ++ [AObj.cells x] := by simp [lay]
abbrev kD : List Nat := [0, 2, 3, 6, 8, 9, 43, 44, 45]
def SmD (A : D) (len i : Int) (rs : Nat) (l : V) (H : List AObj) : St := Sm 109 [(0, A), (2, .ptr 0 0), (3, .ptr 1 0), (6, .ptr 5 0), (8, .ptr rs 0), (9, .v l), (43, A), (44, dI len), (45, dI i)] H
noncomputable def L2 : Code := (cL (cR (cL (cR (cR (cR (cR C10)))))))

/-- the root's count goes up -/
theorem node17 (n : Nat) (A : D) (len i : Int) (rs R : Nat) (word tag : ByteArray) (l : List Int) (H : List AObj) (loc : Loc) (g : Gz) (a b : Nat) {Q : Post} (t : Tr 2 H loc g) (hp : Hp H rs word tag R) (h0 : loc [] = some (R, a, b))
    (hq : ∀ σ, Abs.forget kB σ = SmB A len i rs (eL eI l) R 1 (H.set b (.map ((bumpL tag (g.cs [])).map keyS) ((bumpL tag (g.cs [])).map valS))) → Ht False Proofs.Tryd.prog (cR (cR (cR (cR (cR (cL (cL (cR (cR (cL L2)))))))))) σ Q) :
    Ht False Proofs.Tryd.prog (cR (cR (cL (cL (cR (cR (cL L2))))))) (SmD A len i rs (eL eI l) H) Q := by
  refine Ht.seq (by kernel_rfl) ?_
  refine Ht.region (hxB n) (by kernel_rfl) ?_
  refine Ops.seg' 1 1 (by kernel_rfl) ?_
  refine Ops.one' 2 (fun h0 e0 => (ldc (i := ti24) (h := h0) (r := 5) (off := 0) (cs := [.ptr R 0]) (d := .ptr R 0) (hq_of (g := H) (e0.trans (by kernel_rfl)) hp.c5) (by rfl))) (by kernel_rfl) (by kernel_rfl) ?_
  refine Ops.seg' 1 3 (by kernel_rfl) ?_
  refine Ops.done (by kernel_rfl) ?_
  refine seqH.n ?_
  refine Ht.seq (by kernel_rfl) ?_
  refine Ht.region (hxB n) (by kernel_rfl) ?_
  refine Ops.seg' 3 3 (by kernel_rfl) ?_
  refine Ops.one' 4 (fun h1 e0 => (ldc (i := ti53) (h := h1) (r := R) (off := 1) (cs := [.map a, .map b]) (d := .map b) (hq_of (g := H) (e0.trans (by kernel_rfl)) (t.cell _ _ _ _ h0)) (by rfl))) (by kernel_rfl) (by kernel_rfl) ?_
  refine Ops.seg' 1 5 (by kernel_rfl) ?_
  refine Ops.one' 6 (fun h1 e0 => (ldc (i := ti9) (h := h1) (r := rs) (off := 1) (cs := [.v (.str word), .v (.str tag)]) (d := .v (.str tag)) (hq_of (g := H) (e0.trans (by kernel_rfl)) hp.cs) (by rfl))) (by kernel_rfl) (by kernel_rfl) ?_
  refine Ops.one' 7 (fun h1 e0 => (lkS (h := h1) (b := b) (l := g.cs []) (hq_of (g := H) (e0.trans (by kernel_rfl)) (t.cnts _ _ _ _ h0)) tag)) (by kernel_rfl) (by kernel_rfl) ?_
  refine Ops.seg' 1 8 (by kernel_rfl) ?_
  refine Ops.one' 9 (fun h1 e0 => (muS (h := h1) (b := b) (l := g.cs []) (hq_of (g := H) (e0.trans (by kernel_rfl)) (t.cnts _ _ _ _ h0)) tag)) (by kernel_rfl) (by kernel_rfl) ?_
  refine Ops.done (by kernel_rfl) ?_
  refine seqH.n ?_
  refine Ht.seq (by kernel_rfl) ?_
  refine Ht.region (hxB n) (by kernel_rfl) ?_
  refine Ops.seg' 1 1 (by kernel_rfl) ?_
  refine Ops.done (by kernel_rfl) ?_
  refine seqH.n ?_
  exact hq _ (by kernel_rfl)

/-- one word -/
theorem word (m n : Nat) (hn : m + 30 ≤ n) (a0 : List S39) (i : Nat) (R : Nat) (s : S39) (hs : a0[i]? = some s) (v : List Int × S27) (hv : f21 m s.fWord = some v) (hl : v.1.length ≤ 9223372036854775807) (H : List AObj) (loc : Loc) (g : Gz) {Q : Post} (t : Tr 2 H loc g) (hp : HpA H R) (hR : (loc []).map (·.1) = some R)
    (hq : ∀ H' loc', Tr 2 H' loc' (insG g (v.1.reverse, s.fTag)) → HpA H' R → (loc' []).map (·.1) = some R → ∀ σ, Abs.forget kA σ = SmA (.v (eL e39 a0)) a0.length i H' → Q .normal σ) :
    Ht False Proofs.Tryd.prog (cL (cR (cR (cL L2)))) (SmA (.v (eL e39 a0)) a0.length i H) Q := by
  have hix : idx a0 (i : Int) = some s := by
    unfold idx
    rw [if_pos (by omega)]
    simpa using hs
  refine Ht.block 3 (by kernel_rfl) ?_
  refine Ht.seq (by kernel_rfl) ?_
  refine Ht.region (hxB n) (by kernel_rfl) ?_
  refine Ops.one' 1 (fun h0 e0 => (ix_r (T := T) h0 22 40 2 .plain e39 a0 i s hix (by kernel_rfl) (by kernel_rfl) (fun _ => rfl))) (by kernel_rfl) (by kernel_rfl) ?_
  refine Ops.seg' 2 3 (by kernel_rfl) ?_
  refine Ops.one' 4 (fun h0 e0 => (stc (i := ti40) (h := h0) (r := H.length) (off := 0) (cs := [.v (.str ByteArray.empty), .v (.str ByteArray.empty)]) (cs' := [.v (.str s.fWord), .v (.str s.fTag)]) (x := .v (.agg [.str s.fWord, .str s.fTag])) (hq_of (g := H ++ [AObj.cells [.v (.str ByteArray.empty), .v (.str ByteArray.empty)]]) (e0.trans (by kernel_rfl)) (by simp)) (by rfl) (by rfl))) (by kernel_rfl) (by kernel_rfl) ?_
  refine Ops.done (by kernel_rfl) ?_
  refine seqH.n ?_
  have e1 := lay_eq H [.v (.str ByteArray.empty), .v (.str ByteArray.empty)] [.v (.str s.fWord), .v (.str s.fTag)]
  have hs1 : (lay H [.v (.str ByteArray.empty), .v (.str ByteArray.empty)] [.v (.str s.fWord), .v (.str s.fTag)])[H.length]? = some (.cells [.v (.str s.fWord), .v (.str s.fTag)]) := by rw [e1]; simp
  refine Ht.seq (by kernel_rfl) ?_
  refine Ht.region (hxB n) (by kernel_rfl) ?_
  refine Ops.seg' 1 1 (by kernel_rfl) ?_
  refine Ops.one' 2 (fun h0 e0 => (ldc (i := ti9) (h := h0) (r := H.length) (off := 0) (cs := [.v (.str s.fWord), .v (.str s.fTag)]) (d := .v (.str s.fWord)) (hq_of (g := lay H [.v (.str ByteArray.empty), .v (.str ByteArray.empty)] [.v (.str s.fWord), .v (.str s.fTag)]) (e0.trans (by kernel_rfl)) hs1) (by rfl))) (by kernel_rfl) (by kernel_rfl) ?_
  refine Ops.one' 3 (fun h0 e0 => (call_ok (E' := (XB n).E) (h := h0) (by kernel_rfl) (Args.v (.str s.fWord) (eS s.fWord) (by kernel_rfl) Args.nil) (ok21 m s.fWord v hv n (by omega)))) (by kernel_rfl) (by kernel_rfl) ?_
  refine Ops.seg' 5 8 (by kernel_rfl) ?_
  refine Ops.one' 9 (fun h0 e0 => (stc (i := ti28) (h := h0) (r := (lay H [.v (.str ByteArray.empty), .v (.str ByteArray.empty)] [.v (.str s.fWord), .v (.str s.fTag)]).length) (off := 0) (cs := [dI 0, dI 0]) (cs' := [dI v.2.fCode, dI v.2.fIndex]) (x := .v (.agg [vI v.2.fCode, vI v.2.fIndex])) (hq_of (g := lay H [.v (.str ByteArray.empty), .v (.str ByteArray.empty)] [.v (.str s.fWord), .v (.str s.fTag)] ++ [AObj.cells [dI 0, dI 0]]) (e0.trans (by kernel_rfl)) (by simp)) (by rfl) (by rfl))) (by kernel_rfl) (by kernel_rfl) ?_
  refine Ops.done (by kernel_rfl) ?_
  refine seqH.n ?_
  have e2 := lay_eq (lay H [.v (.str ByteArray.empty), .v (.str ByteArray.empty)] [.v (.str s.fWord), .v (.str s.fTag)]) [dI 0, dI 0] [dI v.2.fCode, dI v.2.fIndex]
  refine Ht.forget kD (Ht.st (σ' := SmD (.v (eL e39 a0)) a0.length i H.length (eL eI v.1) (lay (lay H [.v (.str ByteArray.empty), .v (.str ByteArray.empty)] [.v (.str s.fWord), .v (.str s.fTag)]) [dI 0, dI 0] [dI v.2.fCode, dI v.2.fIndex])) (by kernel_rfl) ?_)
  rw [e2, e1]
  obtain ⟨⟨R', a, b⟩, h0⟩ : ∃ z, loc [] = some z := Option.isSome_iff_exists.1 t.root
  rw [h0] at hR
  cases hR
  have t2 := (t.app [.cells [.v (.str s.fWord), .v (.str s.fTag)]]).app [.cells [dI v.2.fCode, dI v.2.fIndex]]
  have hpA := (hp.app [.cells [.v (.str s.fWord), .v (.str s.fTag)]]).app [.cells [dI v.2.fCode, dI v.2.fIndex]]
  have hp2 : Hp ((H ++ [AObj.cells [.v (.str s.fWord), .v (.str s.fTag)]]) ++ [AObj.cells [dI v.2.fCode, dI v.2.fIndex]]) H.length s.fWord s.fTag R' := ⟨hpA.c0, hpA.c1, hpA.c5, by simp⟩
  refine node17 n _ _ _ H.length R' s.fWord s.fTag v.1 _ loc g a b t2 hp2 h0 fun σ hσ => ?_
  refine Ht.forget kB (Ht.st hσ ?_)
  refine Ht.block 4 (by kernel_rfl) ?_
  refine inner n (by omega) (.v (eL e39 a0)) a0.length i H.length R' s.fWord s.fTag v.1 hl (insG g (v.1.reverse, s.fTag)) (fun H' loc' t' hp' hR' σ' hσ' => ?_) _ loc (g.bump [] s.fTag) R' a b (t2.bump h0 s.fTag) (hp2.set (t2.cnts _ _ _ _ h0) _) (by rw [h0]; rfl) h0 rfl
  refine blkH.x ?_
  show Q .normal _
  exact hq H' loc' t' ⟨hp'.c0, hp'.c1, hp'.c5⟩ hR' σ' hσ'
end Go.Abs
end
section
namespace Go.Abs
set_option linter.unusedVariables false
set_option maxRecDepth 100000

def H0 : List AObj := [.cells [.v .nilptr], .cells [dI 0, dI 0], .map [] [], .map [] [], .cells [.map 2, .map 3], .cells [.ptr 4 0]]
def loc0 : Loc := fun p => if p = [] then some (4, 2, 3) else none
theorem pos_loc0 {p : List Int} {i n : Nat} (h : pos loc0 p i = some n) : p = [] ∧ ((i = 0 ∧ n = 4) ∨ (i = 1 ∧ n = 2) ∨ (i = 2 ∧ n = 3)) := by
  by_cases e : p = []
  · subst e
    refine ⟨rfl, ?_⟩
    match i with
    | 0 => cases h; exact .inl ⟨rfl, rfl⟩
    | 1 => cases h; exact .inr (.inl ⟨rfl, rfl⟩)
    | 2 => cases h; exact .inr (.inr ⟨rfl, rfl⟩)
    | i + 3 => cases h
  · have hn : loc0 p = none := if_neg e
    match i with
    | 0 | 1 | 2 => simp [pos, hn] at h
    | i + 3 => cases h
theorem tr0 : Tr 2 H0 loc0 Gz.empty := by
  have one : ∀ p r a b, loc0 p = some (r, a, b) → p = [] ∧ r = 4 ∧ a = 2 ∧ b = 3 := by
    intro p r a b h
    unfold loc0 at h
    split at h
    · rename_i e; cases h; exact ⟨e, rfl, rfl, rfl⟩
    · cases h
  refine ⟨rfl, fun p r a b h => ?_, fun p r a b h => ?_, fun p r a b h => ?_, (fun p x h => by cases h), fun p x _ _ => ?_, fun p q i j n h1 h2 => ?_, fun p _ => ⟨rfl, rfl⟩, fun p i n h => ?_, fun p x h => ?_⟩
  · obtain ⟨_, rfl, rfl, rfl⟩ := one p r a b h; rfl
  · obtain ⟨_, rfl, rfl, rfl⟩ := one p r a b h; rfl
  · obtain ⟨_, rfl, rfl, rfl⟩ := one p r a b h; rfl
  · simp [loc0]
  · obtain ⟨e1, g1⟩ := pos_loc0 h1
    obtain ⟨e2, g2⟩ := pos_loc0 h2
    exact ⟨e1.trans e2.symm, by omega⟩
  · obtain ⟨_, g⟩ := pos_loc0 h
    omega
  · simp [loc0] at h

theorem words (m n : Nat) (hn : m + 30 ≤ n) (a0 : List S39) (hlen : a0.length ≤ 9223372036854775807) (R : Nat) (tgt : Gz) (hw : ∀ (s : S39) v, s ∈ a0 → f21 m s.fWord = some v → v.1.length ≤ 9223372036854775807) {Q : Post}
    (hq : ∀ H loc, Tr 2 H loc tgt → HpA H R → (loc []).map (·.1) = some R → ∀ σ, Abs.forget kA σ = SmA (.v (eL e39 a0)) a0.length a0.length H → Q (.exit 2) σ)
    (H : List AObj) (loc : Loc) (g : Gz) (ys : List (List Int × ByteArray)) (t : Tr 2 H loc g) (hp : HpA H R) (hR : (loc []).map (·.1) = some R) (hys : pscan m a0 = some ys) (hg : ys.foldl insG g = tgt) :
    Ht False Proofs.Tryd.prog L2 (SmA (.v (eL e39 a0)) a0.length 0 H) Q := by
  refine Ht.loop (fun k σ => ∃ (i : Nat) (H : List AObj) (loc : Loc) (g : Gz) (ys : List (List Int × ByteArray)), k = a0.length - i ∧ i ≤ a0.length ∧ Abs.forget kA σ = SmA (.v (eL e39 a0)) a0.length i H ∧ Tr 2 H loc g ∧ HpA H R ∧ (loc []).map (·.1) = some R ∧ pscan m (a0.drop i) = some ys ∧ ys.foldl insG g = tgt)
    a0.length (by kernel_rfl) ⟨0, H, loc, g, ys, rfl, Nat.zero_le _, by kernel_rfl, t, hp, hR, hys, hg⟩ ?_
  clear t hp hR hys hg H loc g ys
  rintro k σ ⟨i, H, loc, g, ys, rfl, hi, hσ, t, hp, hR, hys, hg⟩
  refine Ht.forget kA (Ht.st hσ ?_)
  clear hσ
  refine Ht.seq (by kernel_rfl) ?_
  refine Ht.region (hxB n) (by kernel_rfl) ?_
  refine Ops.seg' 1 1 (by kernel_rfl) ?_
  refine Ops.done (by kernel_rfl) ?_
  refine seqH.n ?_
  refine Ht.seq (by kernel_rfl) ?_
  refine Ht.cond (decide ((i : Int) < (a0.length : Int))) (by kernel_rfl) (by kernel_rfl) (fun hc => ?_) (fun hc => ?_)
  case refine_2 =>
    have hc : i = a0.length := by have := of_decide_eq_false hc; omega
    subst hc
    rw [List.drop_eq_nil_of_le (Nat.le_refl _)] at hys
    cases hys
    subst hg
    refine Ht.exit (id := 2) (by kernel_rfl) ?_
    show Q (.exit 2) _
    exact hq H loc t hp hR _ (by kernel_rfl)
  have hc : i < a0.length := by have := of_decide_eq_true hc; omega
  obtain ⟨s, hs⟩ : ∃ s, a0[i]? = some s := ⟨_, List.getElem?_eq_getElem hc⟩
  have hd : a0.drop i = s :: a0.drop (i + 1) := by
    rw [List.drop_eq_getElem_cons hc]
    rw [List.getElem?_eq_getElem hc] at hs
    rw [Option.some.inj hs]
  rw [hd] at hys
  simp only [pscan] at hys
  obtain ⟨v, hv, hys⟩ := bnd_some hys
  obtain ⟨zs, hz, hys⟩ := bnd_some hys
  cases hys
  refine Ht.skip (by kernel_rfl) ?_
  refine seqH.n ?_
  refine Ht.seq (by kernel_rfl) ?_
  refine Ht.forget kA (Ht.st (σ' := SmA (.v (eL e39 a0)) a0.length i H) (by kernel_rfl) ?_)
  refine word m n hn a0 i R s hs v hv (hw s v (List.mem_of_getElem? hs) hv) H loc g t hp hR fun H' loc' t' hp' hR' σ' hσ' => ?_
  refine seqH.n ?_
  refine Ht.forget kA (Ht.st hσ' ?_)
  refine Ht.region (hxB n) (by kernel_rfl) ?_
  refine Ops.seg' 2 2 (by kernel_rfl) ?_
  refine Ops.done (by kernel_rfl) ?_
  have hw' : w64 ((i : Int) + 1) = ((i + 1 : Nat) : Int) := by rw [w64_id (by omega)]; omega
  refine ⟨a0.length - (i + 1), by omega, i + 1, H', loc', insG g (v.1.reverse, s.fTag), zs, rfl, by omega, ?_, t', hp', hR', hz, hg⟩
  have e : ∀ y : Int, y = ((i + 1 : Nat) : Int) → SmA (.v (eL e39 a0)) a0.length y H' = SmA (.v (eL e39 a0)) a0.length ((i + 1 : Nat) : Int) H' := fun y hy => by rw [hy]
  refine Eq.trans ?_ (e (w64 ((i : Int) + 1)) hw')
  kernel_rfl

theorem build_main (m n : Nat) (hn : m + 30 ≤ n) (a0 : List S39) (hlen : a0.length ≤ 9223372036854775807) (hw : ∀ (s : S39) v, s ∈ a0 → f21 m s.fWord = some v → v.1.length ≤ 9223372036854775807) (ys : List (List Int × ByteArray)) (hys : pscan m a0 = some ys) {Q : Post}
    (hq : ∀ σ, (∃ d, resultsD T σ (resOf Proofs.Tryd.prog 10) = some d ∧ frz σ.heap 15 d = some (.tuple [.agg [eGz (some (buildG ys))], e27 ⟨0, 0⟩])) → Q .ret σ) :
    Ht False Proofs.Tryd.prog (cR (cR (cR C10))) (Sm 109 [(0, .v (eL e39 a0)), (2, .ptr 0 0), (3, .ptr 1 0)] zO) Q := by
  obtain ⟨n, rfl⟩ : ∃ q, n = q + 1 := ⟨n - 1, by omega⟩
  refine Ht.seq (by kernel_rfl) ?_
  refine Ht.region (hxB (n + 1)) (by kernel_rfl) ?_
  refine Ops.one' 1 (fun h0 e0 => (fresh_run n h0)) (by kernel_rfl) (by kernel_rfl) ?_
  refine Ops.seg' 3 4 (by kernel_rfl) ?_
  refine Ops.done (by kernel_rfl) ?_
  refine seqH.n ?_
  refine Ht.seq (by kernel_rfl) ?_
  refine Ht.seq (by kernel_rfl) ?_
  refine Ht.forget [0, 2, 3, 6] (Ht.st (σ' := Sm 109 [(0, .v (eL e39 a0)), (2, .ptr 0 0), (3, .ptr 1 0), (6, .ptr 5 0)] H0) (by kernel_rfl) ?_)
  refine Ht.region (hxB (n + 1)) (by kernel_rfl) ?_
  refine Ops.seg' 1 1 (by kernel_rfl) ?_
  refine Ops.one' 2 (fun h0 e0 => (len_r (T := T) h0 22 40 .plain e39 a0 (by kernel_rfl))) (by kernel_rfl) (by kernel_rfl) ?_
  refine Ops.seg' 1 3 (by kernel_rfl) ?_
  refine Ops.done (by kernel_rfl) ?_
  refine seqH.n ?_
  refine Ht.block 2 (by kernel_rfl) ?_
  refine Ht.forget kA (Ht.st (σ' := SmA (.v (eL e39 a0)) a0.length 0 H0) (by kernel_rfl) ?_)
  refine words m (n + 1) hn a0 hlen 4 (buildG ys) hw (fun H loc t hp hR σ hσ => ?_) H0 loc0 Gz.empty ys tr0 ⟨rfl, rfl, rfl⟩ rfl hys rfl
  refine blkH.x ?_
  refine seqH.n ?_
  refine Ht.forget kA (Ht.st hσ ?_)
  refine Ht.seq (by kernel_rfl) ?_
  refine Ht.region (hxB (n + 1)) (by kernel_rfl) ?_
  refine Ops.one' 1 (fun h0 e0 => (ldc (i := ti26) (h := h0) (r := 5) (off := 0) (cs := [.ptr 4 0]) (d := .agg [.ptr 4 0]) (hq_of (g := H) (e0.trans (by kernel_rfl)) hp.c5) (by rfl))) (by kernel_rfl) (by kernel_rfl) ?_
  refine Ops.seg' 1 2 (by kernel_rfl) ?_
  refine Ops.one' 3 (fun h0 e0 => (stc (i := ti26) (h := h0) (r := 0) (off := 0) (cs := [.v .nilptr]) (cs' := [.ptr 4 0]) (x := .agg [.ptr 4 0]) (hq_of (g := H) (e0.trans (by kernel_rfl)) hp.c0) (by rfl) (by rfl))) (by kernel_rfl) (by kernel_rfl) ?_
  have h1 : (H.set 0 (.cells [.ptr 4 0]))[1]? = some (.cells [dI 0, dI 0]) := by rw [List.getElem?_set_ne (by decide)]; exact hp.c1
  refine Ops.one' 4 (fun h0 e0 => (stc (i := ti28) (h := h0) (r := 1) (off := 0) (cs := [dI 0, dI 0]) (cs' := [dI 0, dI 0]) (x := .v (.agg [vI 0, vI 0])) (hq_of (g := H.set 0 (.cells [.ptr 4 0])) (e0.trans (by kernel_rfl)) h1) (by rfl) (by rfl))) (by kernel_rfl) (by kernel_rfl) ?_
  refine Ops.done (by kernel_rfl) ?_
  refine seqH.n ?_
  refine Ht.ret (by kernel_rfl) ?_
  refine hq _ ?_
  have fin : ∀ σ : St, σ.tmps.getD 2 .undef = .ptr 0 0 → σ.tmps.getD 3 .undef = .ptr 1 0 → σ.heap = (H.set 0 (.cells [.ptr 4 0])).set 1 (.cells [dI 0, dI 0]) → ∃ d, resultsD T σ (resOf Proofs.Tryd.prog 10) = some d ∧ frz σ.heap 15 d = some (.tuple [.agg [eGz (some (buildG ys))], e27 ⟨0, 0⟩]) := by
    intro σ g2 g3 gh
    have hr : resOf Proofs.Tryd.prog 10 = [.cell 2 26, .cell 3 28] := by kernel_rfl
    have t2 := (t.set 0 (.cells [.ptr 4 0]) (by decide)).set 1 (.cells [dI 0, dI 0]) (by decide)
    have hl0 := lt_of_getElem? hp.c0
    have hl1 := lt_of_getElem? hp.c1
    have k0 : ((H.set 0 (.cells [.ptr 4 0])).set 1 (.cells [dI 0, dI 0]))[0]? = some (.cells [.ptr 4 0]) := by rw [List.getElem?_set_ne (by decide), List.getElem?_set_self hl0]
    have k1 : ((H.set 0 (.cells [.ptr 4 0])).set 1 (.cells [dI 0, dI 0]))[1]? = some (.cells [dI 0, dI 0]) := by rw [List.getElem?_set_self (by simpa using hl1)]
    obtain ⟨⟨R', a, b⟩, h0⟩ : ∃ z, loc [] = some z := Option.isSome_iff_exists.1 t.root
    have hR' : R' = 4 := by rw [h0] at hR; simpa using hR
    subst hR'
    have hf := frz_tree t2 (buildG_flat ys) 5 [] 4 a b h0 rfl
    rw [hr, gh]
    refine ⟨.tuple [.agg [.ptr 4 0], .v (.agg [vI 0, vI 0])], ?_, ?_⟩
    · simp only [resultsD, allM, resultD, T, g2, g3, gh, loadD, k0, k1]
      rfl
    · show ((allM (frz _ 14) [D.agg [.ptr 4 0], .v (.agg [vI 0, vI 0])]).map V.tuple) = _
      have e1 : frz ((H.set 0 (.cells [.ptr 4 0])).set 1 (.cells [dI 0, dI 0])) 14 (.agg [.ptr 4 0]) = some (.agg [treeV (buildG ys) 5 []]) := by
        show ((allM (frz _ 13) [D.ptr 4 0]).map V.agg) = _
        have hf' : frz ((H.set 0 (.cells [.ptr 4 0])).set 1 (.cells [dI 0, dI 0])) 13 (.ptr 4 0) = some (treeV (buildG ys) 5 []) := hf
        simp only [allM, hf', Option.map_some]
      have e2 : frz ((H.set 0 (.cells [.ptr 4 0])).set 1 (.cells [dI 0, dI 0])) 14 (.v (.agg [vI 0, vI 0])) = some (.agg [vI 0, vI 0]) := rfl
      simp only [allM, e1, e2, Option.map_some]
      rfl
  exact fin _ (by kernel_rfl) (by kernel_rfl) (by kernel_rfl)
end Go.Abs
end
section
namespace Go.Abs
set_option linter.unusedVariables false
set_option maxRecDepth 100000

theorem calls_of_ht {DR : Prop} {P : Program} {f : Nat} {fn : Func} {c : Code} {T : Nat → Option TI} (hfn : P.funcs[f]? = some fn) (hc : fn.body = some c) (hT : ∀ t i, T t = some i → tiOf P t = some i) {xs : List V} {r : V} {N : Nat}
    (ht : Ht DR P (bodyOf P f) (startOf P f (xs.map .v)) (fun e σ => (e = .normal ∨ e = .ret) ∧ ∃ d, resultsD T σ (resOf P f) = some d ∧ frz σ.heap N d = some r)) {S : Nat → Nat → Prop} {w : World} {us : Array Value} (hrel : RelL S [] w us (xs.map .v)) (hS : ∀ b i, S b i → b < w.heap.size) (hG : Glob S w) :
    Calls P f us w fun e w' => ∃ v S', e = .returned v ∧ Ext DR S [] w S' [] w' ∧ HInv S' [] w' [] ∧ RelV S' w' v r := by
  have hb : bodyOf P f = c := by simp only [bodyOf, hfn, hc]
  have hs : startOf P f (xs.map .v) = ⟨xs.map .v ++ List.replicate (fn.ntmps - (xs.map D.v).length) U, []⟩ := by simp only [startOf, hfn]
  have hres : resOf P f = fn.results.toList := by simp only [resOf, hfn]
  rw [hb, hs] at ht
  have hi := hinv_nil hS hG
  have hstart : Inv S [] ⟨xs.map .v ++ List.replicate (fn.ntmps - (xs.map D.v).length) U, []⟩ { tmps := us ++ Array.replicate (fn.ntmps - us.size) undef, defers := [] } w := by
    refine ⟨by simp [hrel.1], fun i v d h1 h2 => ?_, hi, rfl⟩
    rw [Array.getElem?_append] at h1
    simp only [List.getElem?_append] at h2
    split at h1
    · rename_i hlt
      rw [if_pos (by rw [← hrel.1]; exact hlt)] at h2
      exact hrel.2 i v d h1 h2
    · rename_i hlt
      rw [if_neg (by rw [← hrel.1]; exact hlt)] at h2
      have e1 := (Array.mem_replicate.1 (Array.mem_of_getElem? h1)).2
      have e2 := (List.mem_replicate.1 (List.mem_of_getElem? h2)).2
      subst e1 e2
      exact .v _ _ (.tuple _ _ rfl (fun i v x hv => by simp at hv))
  refine calls_of_wp hfn hc (wp_mono (ht S [] _ w hstart) ?_)
  rintro ex a' w' ⟨e, σ, ⟨he, d, hd, hz⟩, rfl, S1, β1, hI1, hE1⟩
  rw [hres] at hd
  obtain ⟨v, h3, h4⟩ := resultsD_sound hT hI1 hd
  have hin : ∀ b i, withOwn S1 β1 σ.heap b i → S b i ∨ w.heap.size ≤ b := by
    intro b i hs
    rcases hs with hs | ⟨q, o, c, k, g1, g2, g3⟩
    · rcases hE1.stay b i hs with g | g | ⟨q, c, k, g⟩
      · exact .inl g
      · exact .inr g
      · simp at g
    · obtain ⟨k', rfl⟩ := hI1.heap.kpos g1 g2 g3
      rcases hE1.fresh q b c k' g3 with g | ⟨q', c', k'', g⟩
      · exact .inr g
      · simp at g
  obtain ⟨b1, b2⟩ := back_from (S' := withOwn S1 β1 σ.heap) (h1 := σ.heap) hi hE1 (fun _ _ h => h) (fun b i hs => .inl (hE1.keeps b i hs).1) hin (own_sb hI1.heap)
  have hR := frz_sound hI1.heap N _ _ _ hz h4
  rcases he with rfl | rfl
  · exact ⟨hI1.defers, v, h3, v, _, rfl, b1, b2, hR⟩
  · exact ⟨hI1.defers, v, h3, v, _, rfl, b1, b2, hR⟩

/-! ### Build -/
def MM : Nat := 60000
def decS : V → Option S39
  | .agg [.str a, .str b] => some ⟨a, b⟩
  | _ => none
theorem decS_e (s : S39) : decS (e39 s) = some s := rfl
theorem decS_spec {v : V} {s : S39} (h : decS v = some s) : v = e39 s := by
  unfold decS at h
  split at h
  · cases h; rfl
  · cases h
theorem allM_decS (l : List S39) : allM decS (l.map e39) = some l := by
  have := allM_map (f := decS) (k := e39) (r := fun s => s) l fun s _ => decS_e s
  rw [List.map_id'] at this
  exact this
def big62 : Nat := 9223372036854775807
def f10 (m : Nat) (a0 : List S39) : Option (S25 × S27) :=
  cnd (decide (a0.length ≤ big62)) (bnd (if a0.length > 300 then some (some ⟨2, -1⟩) else vscan MM a0 0) fun f => match f with
    | some f => some (⟨none⟩, f)
    | none => bnd (pscan MM a0) fun ys => cnd (ys.all fun y => decide (y.1.length ≤ big62)) (some (⟨some (buildG ys)⟩, ⟨0, 0⟩)) none) none
def F10 : List V → Option V
  | [.sl _ es] => match allM decS es with
    | some l => (f10 0 l).map fun o => .tuple [e25 o.1, e27 o.2]
    | none => none
  | _ => none
theorem pscan_mem {m : Nat} : ∀ {l : List S39} {ys : List (List Int × ByteArray)}, pscan m l = some ys → ∀ s v, s ∈ l → f21 m s.fWord = some v → (v.1.reverse, s.fTag) ∈ ys
  | [], _, _, _, _, hs, _ => by cases hs
  | t :: r, ys, h, s, v, hs, hv => by
    simp only [pscan] at h
    obtain ⟨u, hu, h⟩ := bnd_some h
    obtain ⟨zs, hz, h⟩ := bnd_some h
    cases h
    rcases List.mem_cons.1 hs with rfl | hs
    · rw [hv] at hu; cases hu; exact List.mem_cons_self
    · exact List.mem_cons_of_mem _ (pscan_mem hz s v hs hv)
theorem is10 : Is Proofs.Tryd.prog 10 := ⟨Proofs.Tryd.f10, Proofs.Tryd.func10, by kernel_rfl, by kernel_rfl⟩
theorem ora10 : OraOk False Proofs.Tryd.prog 10 F10 := by
  refine ⟨is10, fun vs r hF S w us hrel hs hg => ?_⟩
  unfold F10 at hF
  split at hF
  case h_2 => cases hF
  rename_i fl es
  split at hF
  case h_2 => cases hF
  rename_i l hl
  have hes := allM_dec (fun _ _ h => decS_spec h) hl
  subst hes
  obtain ⟨o, ho, rfl⟩ := Option.map_eq_some_iff.1 hF
  have hrel' : RelL S [] w us ([eL e39 l].map .v) := by
    refine ⟨hrel.1, fun i v d h1 h2 => ?_⟩
    match i with
    | 0 =>
      simp at h2
      subst h2
      exact .v _ _ (hrel.2 0 v _ h1 rfl).of_v.plainS
    | i + 1 => simp at h2
  unfold f10 at ho
  rcases cnd_some ho with ⟨hlen, ho⟩ | ⟨_, ho⟩
  case inr => cases ho
  have hlen : l.length ≤ 9223372036854775807 := of_decide_eq_true hlen
  obtain ⟨f, hf, ho⟩ := bnd_some ho
  have hbody : bodyOf Proofs.Tryd.prog 10 = C10 := rfl
  cases f with
  | some f =>
    cases ho
    refine calls_of_ht (c := C10) (T := T) (N := 15) (r := .tuple [e25 ⟨none⟩, e27 f]) Proofs.Tryd.func10 (by kernel_rfl) T_ok ?_ hrel' hs hg
    refine build_check MM (MM + 30) (Nat.le_refl _) l hlen (some f) hf (fun f' hf' σ hσ => ?_) (fun h => nomatch h)
    cases hf'
    exact ⟨.inr rfl, hσ⟩
  | none =>
    obtain ⟨ys, hys, ho⟩ := bnd_some ho
    rcases cnd_some ho with ⟨hall, ho⟩ | ⟨_, ho⟩
    case inr => cases ho
    cases ho
    refine calls_of_ht (c := C10) (T := T) (N := 15) (r := .tuple [e25 ⟨some (buildG ys)⟩, e27 ⟨0, 0⟩]) Proofs.Tryd.func10 (by kernel_rfl) T_ok ?_ hrel' hs hg
    refine build_check MM (MM + 30) (Nat.le_refl _) l hlen none hf (fun f' hf' => nomatch hf') (fun _ => ?_)
    refine build_main MM (MM + 30) (Nat.le_refl _) l hlen (fun s v hsm hv => ?_) ys hys fun σ hσ => ⟨.inr rfl, hσ⟩
    have := List.all_eq_true.1 hall _ (pscan_mem hys s v hsm hv)
    simpa [big62] using of_decide_eq_true this
end Go.Abs
end
