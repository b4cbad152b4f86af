import Derived.Test.YthiikobbfpfbkaaDoorAbsW
import Derived.Test.YthiikobbfpfbkaaDoorAbsC
namespace Go.Abs
set_option linter.unusedVariables false
structure Mv (d : Nat → D) (o : AObj) : Prop where
 two : ((∀ q, (d q).ref? = some q) ∧ (∀ q r, (d q).withRef r = d r) ∧ (∀ q L, D.under L 5 (d q) = decide (q < L)) ∧ o.live = true) ∨ ((∀ q r, d q = d r) ∧ (∀ q, (d q).ref? = none) ∧ (∀ q L, D.under L 5 (d q) = true) ∧ o = .dead)
 und : ∀ L, o.under L = true
structure Ph where
 s : Nat
 q : Nat
 d : Nat → D
 o : AObj
 mv : Mv d o
theorem Mv.tok (es : List V) (k n : Nat) : Mv (fun q => .tsl q es) (.tok k n) := ⟨.inl ⟨fun _ => rfl, fun _ _ => rfl, fun _ _ => rfl, rfl⟩, fun _ => rfl⟩
theorem Mv.val (v : V) : Mv (fun _ => .v v) .dead := ⟨.inr ⟨fun _ _ => rfl, fun _ => rfl, fun _ _ => rfl, rfl⟩, fun _ => rfl⟩
def Ph.ag (s q k : Nat) (g : AG) (xs : List V) : Ph := ⟨s, q, fun q => AG.d g q xs, AG.o g k xs, by
 cases g with
 | tok => exact Mv.tok xs k xs.length
 | fl f => exact Mv.val _⟩
def Ph.ar (s q k : Nat) (g : AR) (xs : List V) : Ph := ⟨s, q, fun q => AR.d g q xs, AR.o g k xs, by
 cases g with
 | ag g =>
  cases g with
  | tok => exact Mv.tok xs k xs.length
  | fl f => exact Mv.val _
 | fl f => exact Mv.val _⟩
def Ph.ap (s q k : Nat) (g : SFlag) (xs : List V) : Ph := ⟨s, q, fun q => appF g q xs, appO k xs, by
 cases xs with
 | nil => exact Mv.val _
 | cons x r => exact Mv.tok (x :: r) k (x :: r).length⟩
def ph1 (σ : St) (p : Ph) : St := ⟨σ.tmps.set p.s (.tsl p.q []), σ.heap.set p.q (.tok 0 0)⟩
def back1 (τ : St) (p : Ph) : St := match τ.tmps[p.s]? with
 | some (.tsl r _) => ⟨τ.tmps.set p.s (p.d r), τ.heap.set r p.o⟩
 | _ => τ
def refOf (σ : St) (s : Nat) : Option Nat := (σ.tmps[s]?).bind D.ref?
def distinct : List Nat → Bool
 | [] => true
 | x :: r => !(r.contains x) && distinct r
def cutQ (keep : List Nat) (L M : Nat) (σ : St) : Option St :=
 if (σ.heap.take L).all (AObj.under L) && (σ.heap.drop M).all (AObj.under L) then (allM id (σ.tmps.mapIdx (cutD keep L M))).map fun ts => ⟨ts, σ.heap.take L ++ σ.heap.drop M⟩ else none
def phOk (keep acc : List Nat) (ss : List Nat) (σ : St) : Bool :=
 acc.all (fun s => decide (s < 100000)) && distinct acc && distinct ss && ss.all (fun s => acc.contains s && keep.contains s) && distinct (acc.filterMap (refOf σ)) && (acc.filterMap (refOf σ)).all fun r => decide (r < σ.heap.length)
def squashQ (keep acc : List Nat) (L : Nat) (σ : St) : Option St := cutQ keep L σ.heap.length (acc.foldl moveT σ)
theorem distinct_nodup : ∀ {l : List Nat}, distinct l = true → l.Nodup
 | [], _ => List.nodup_nil
 | x :: r, h => by
  unfold distinct at h
  rw [Bool.and_eq_true] at h
  refine List.nodup_cons.2 ⟨?_, distinct_nodup h.2⟩
  have := h.1
  simpa using this
theorem sq_set_same {α : Type} {l : List α} {i : Nat} {a : α} (h : l[i]? = some a) : l.set i a = l := by
 apply List.ext_getElem?
 intro j
 by_cases e : i = j
 ·subst e
  rw [List.getElem?_set_self (by have := List.getElem?_eq_some_iff.1 h; exact this.1), h]
 ·rw [List.getElem?_set_ne e]
theorem D.ref_with {d : D} {r : Nat} (h : d.ref? = some r) (n : Nat) : (d.withRef n).ref? = some n := by
 cases d <;> first | rfl | cases h
structure Rl (ps : List Ph) (acc : List Nat) (σ τ : St) : Prop where
 tl : σ.tmps.length = τ.tmps.length
 hl : σ.heap.length = τ.heap.length
 at_ : ∀ p ∈ ps, ∃ q, τ.tmps[p.s]? = some (.tsl q []) ∧ σ.tmps[p.s]? = some (p.d q) ∧ τ.heap[q]? = some (.tok 0 0) ∧ σ.heap[q]? = some p.o
 tmp : ∀ i, (∀ p ∈ ps, p.s ≠ i) → σ.tmps[i]? = τ.tmps[i]?
 obj : ∀ r, (∀ p ∈ ps, τ.tmps[p.s]? ≠ some (.tsl r [])) → σ.heap[r]? = τ.heap[r]?
 lt : ∀ s ∈ acc, ∀ r, refOf τ s = some r → r < τ.heap.length
 ne : ∀ s ∈ acc, ∀ s' ∈ acc, s ≠ s' → ∀ r, refOf τ s = some r → refOf τ s' ≠ some r
theorem move_ph {σ : St} {s q : Nat} {d : Nat → D} {o : AObj} (m : Mv d o) (h1 : σ.tmps[s]? = some (d q)) (h2 : σ.heap[q]? = some o) : moveT σ s = ⟨σ.tmps.set s (d σ.heap.length), σ.heap.set q .dead ++ [o]⟩ := by
 rcases m.two with ⟨m1, m2, m3, m4⟩ | ⟨m1, m2, m3, m4⟩
 ·unfold moveT
  simp only [h1, m1, h2, m4, if_true, m2]
 ·unfold moveT
  simp only [h1, m2]
  unfold padS
  subst m4
  rw [sq_set_same h2, m1 σ.heap.length q, sq_set_same h1]
theorem refOf_get {σ : St} {s : Nat} {d : D} (h : σ.tmps[s]? = some d) : refOf σ s = d.ref? := by
 unfold refOf; rw [h]; rfl
theorem lt_get {α : Type} {l : List α} {i : Nat} {a : α} (h : l[i]? = some a) : i < l.length := (List.getElem?_eq_some_iff.1 h).1
theorem get_app {α : Type} {l x : List α} {i : Nat} (h : i < l.length) : (l ++ x)[i]? = l[i]? := List.getElem?_append_left h
theorem get_end {α : Type} {l : List α} {x : α} {i : Nat} (h : i = l.length) : (l ++ [x])[i]? = some x := by subst h; simp
theorem get_past {α : Type} {l : List α} {x : α} {i : Nat} (h : l.length < i) : (l ++ [x])[i]? = none := List.getElem?_eq_none (by simp; omega)
theorem Rl.pad {ps : List Ph} {acc : List Nat} {σ τ : St} (h : Rl ps acc σ τ) : Rl ps acc (padS σ) (padS τ) := by
 obtain ⟨h1, h2, h3, h4, h5, h6, h7⟩ := h
 refine ⟨h1, by simp [padS, h2], fun p hp => ?_, h4, fun r hr => ?_, fun s hs r hr => ?_, h7⟩
 ·obtain ⟨q, a, b, c, d⟩ := h3 p hp
  exact ⟨q, a, b, (get_app (lt_get c)).trans c, (get_app (lt_get d)).trans d⟩
 ·show (σ.heap ++ [AObj.dead])[r]? = (τ.heap ++ [AObj.dead])[r]?
  rcases Nat.lt_trichotomy r τ.heap.length with g | g | g
  ·rw [get_app (by omega), get_app g]; exact h5 r hr
  ·rw [get_end (by omega), get_end g]
  ·rw [get_past (by omega), get_past g]
 ·have := h6 s hs r hr
  show r < (τ.heap ++ [AObj.dead]).length
  simp; omega
theorem Rl.put {ps : List Ph} {acc : List Nat} {σ τ : St} (h : Rl ps acc σ τ) {s r : Nat} {x : D} {o : AObj} (hs : s ∈ acc) (hps : ∀ p ∈ ps, p.s ∈ acc) (hn : ∀ p ∈ ps, p.s ≠ s) (hx : τ.tmps[s]? = some x) (hr : x.ref? = some r) :
  Rl ps acc ⟨σ.tmps.set s (x.withRef σ.heap.length), σ.heap.set r .dead ++ [o]⟩ ⟨τ.tmps.set s (x.withRef τ.heap.length), τ.heap.set r .dead ++ [o]⟩ := by
 obtain ⟨h1, h2, h3, h4, h5, h6, h7⟩ := h
 have hrs : refOf τ s = some r := (refOf_get hx).trans hr
 have hsl := lt_get hx
 have hother : ∀ s', s' ≠ s → refOf ⟨τ.tmps.set s (x.withRef τ.heap.length), τ.heap.set r .dead ++ [o]⟩ s' = refOf τ s' := fun s' hne => by
  unfold refOf
  show ((τ.tmps.set s _)[s']?).bind D.ref? = _
  rw [List.getElem?_set_ne (Ne.symm hne)]
 have hself : refOf ⟨τ.tmps.set s (x.withRef τ.heap.length), τ.heap.set r .dead ++ [o]⟩ s = some τ.heap.length := by
  unfold refOf
  show ((τ.tmps.set s _)[s]?).bind D.ref? = _
  rw [List.getElem?_set_self hsl]
  exact D.ref_with hr _
 refine ⟨by simp [h1], by simp [h2], fun p hp => ?_, fun i hi => ?_, fun r' hr' => ?_, fun s' hs' r' hr' => ?_, fun a ha b hb hab r' hr' => ?_⟩
 ·obtain ⟨q, a, b, c, d⟩ := h3 p hp
  have hne : q ≠ r := fun e => by
   subst e
   exact h7 s hs p.s (hps p hp) (Ne.symm (hn p hp)) q hrs ((refOf_get a).trans rfl)
  refine ⟨q, ?_, ?_, ?_, ?_⟩
  ·show (τ.tmps.set s _)[p.s]? = _
   rw [List.getElem?_set_ne (Ne.symm (hn p hp))]; exact a
  ·show (σ.tmps.set s _)[p.s]? = _
   rw [List.getElem?_set_ne (Ne.symm (hn p hp))]; exact b
  ·show (τ.heap.set r .dead ++ [o])[q]? = _
   rw [get_app (by rw [List.length_set]; exact lt_get c), List.getElem?_set_ne (Ne.symm hne)]; exact c
  ·show (σ.heap.set r .dead ++ [o])[q]? = _
   rw [get_app (by rw [List.length_set]; exact lt_get d), List.getElem?_set_ne (Ne.symm hne)]; exact d
 ·show (σ.tmps.set s _)[i]? = (τ.tmps.set s _)[i]?
  by_cases e : s = i
  ·subst e
   rw [List.getElem?_set_self (by omega), List.getElem?_set_self hsl, h2]
  ·rw [List.getElem?_set_ne e, List.getElem?_set_ne e]; exact h4 i hi
 ·show (σ.heap.set r .dead ++ [o])[r']? = (τ.heap.set r .dead ++ [o])[r']?
  have hold : ∀ p ∈ ps, τ.tmps[p.s]? ≠ some (.tsl r' []) := fun p hp e => by
   refine hr' p hp ?_
   show (τ.tmps.set s _)[p.s]? = _
   rw [List.getElem?_set_ne (Ne.symm (hn p hp))]; exact e
  rcases Nat.lt_trichotomy r' τ.heap.length with g | g | g
  ·rw [get_app (by rw [List.length_set]; omega), get_app (by rw [List.length_set]; exact g)]
   by_cases e : r = r'
   ·subst e
    rw [List.getElem?_set_self (by omega), List.getElem?_set_self g]
   ·rw [List.getElem?_set_ne e, List.getElem?_set_ne e]; exact h5 r' hold
  ·rw [get_end (by rw [List.length_set]; omega), get_end (by rw [List.length_set]; exact g)]
  ·rw [get_past (by rw [List.length_set]; omega), get_past (by rw [List.length_set]; exact g)]
 ·show r' < (τ.heap.set r .dead ++ [o]).length
  simp only [List.length_append, List.length_set, List.length_cons, List.length_nil]
  by_cases e : s' = s
  ·subst e
   rw [hself] at hr'; cases hr'; omega
  ·rw [hother s' e] at hr'
   have := h6 s' hs' r' hr'
   omega
 ·by_cases e : a = s
  ·subst e
   rw [hself] at hr'; cases hr'
   rw [hother b (Ne.symm hab)]
   intro hb'
   have := h6 b hb _ hb'
   omega
  ·rw [hother a e] at hr'
   by_cases e2 : b = s
   ·subst e2
    rw [hself]
    intro hb'
    cases hb'
    have := h6 a ha _ hr'
    omega
   ·rw [hother b e2]; exact h7 a ha b hb hab r' hr'
theorem Rl.putp {ps : List Ph} {acc : List Nat} {σ τ : St} (h : Rl ps acc σ τ) {p : Ph} (hp : p ∈ ps) (hps : ∀ p ∈ ps, p.s ∈ acc) (hd : ∀ p' ∈ ps, p'.s = p.s → p' = p) {q : Nat} (a : τ.tmps[p.s]? = some (.tsl q [])) (b : σ.tmps[p.s]? = some (p.d q)) (c : τ.heap[q]? = some (.tok 0 0)) (d : σ.heap[q]? = some p.o) :
  Rl ps acc ⟨σ.tmps.set p.s (p.d σ.heap.length), σ.heap.set q .dead ++ [p.o]⟩ ⟨τ.tmps.set p.s (.tsl τ.heap.length []), τ.heap.set q .dead ++ [.tok 0 0]⟩ := by
 obtain ⟨h1, h2, h3, h4, h5, h6, h7⟩ := h
 have hrs : refOf τ p.s = some q := (refOf_get a).trans rfl
 have hsl := lt_get a
 have hother : ∀ s', s' ≠ p.s → refOf ⟨τ.tmps.set p.s (.tsl τ.heap.length []), τ.heap.set q .dead ++ [.tok 0 0]⟩ s' = refOf τ s' := fun s' hne => by
  unfold refOf
  show ((τ.tmps.set p.s _)[s']?).bind D.ref? = _
  rw [List.getElem?_set_ne (Ne.symm hne)]
 have hself : refOf ⟨τ.tmps.set p.s (.tsl τ.heap.length []), τ.heap.set q .dead ++ [.tok 0 0]⟩ p.s = some τ.heap.length := by
  unfold refOf
  show ((τ.tmps.set p.s _)[p.s]?).bind D.ref? = _
  rw [List.getElem?_set_self hsl]; rfl
 refine ⟨by simp [h1], by simp [h2], fun p' hp' => ?_, fun i hi => ?_, fun r' hr' => ?_, fun s' hs' r' hr' => ?_, fun u hu v hv huv r' hr' => ?_⟩
 ·by_cases e : p'.s = p.s
  ·obtain rfl := hd p' hp' e
   refine ⟨τ.heap.length, ?_, ?_, ?_, ?_⟩
   ·show (τ.tmps.set p'.s _)[p'.s]? = _
    rw [List.getElem?_set_self hsl]
   ·show (σ.tmps.set p'.s _)[p'.s]? = _
    rw [List.getElem?_set_self (by omega), h2]
   ·exact get_end (by rw [List.length_set])
   ·exact get_end (by rw [List.length_set]; omega)
  ·obtain ⟨q', a', b', c', d'⟩ := h3 p' hp'
   have hne : q' ≠ q := fun e' => by
    subst e'
    exact h7 p.s (hps p hp) p'.s (hps p' hp') (Ne.symm e) q' hrs ((refOf_get a').trans rfl)
   refine ⟨q', ?_, ?_, ?_, ?_⟩
   ·show (τ.tmps.set p.s _)[p'.s]? = _
    rw [List.getElem?_set_ne (Ne.symm e)]; exact a'
   ·show (σ.tmps.set p.s _)[p'.s]? = _
    rw [List.getElem?_set_ne (Ne.symm e)]; exact b'
   ·show (τ.heap.set q .dead ++ [AObj.tok 0 0])[q']? = _
    rw [get_app (by rw [List.length_set]; exact lt_get c'), List.getElem?_set_ne (Ne.symm hne)]; exact c'
   ·show (σ.heap.set q .dead ++ [p.o])[q']? = _
    rw [get_app (by rw [List.length_set]; exact lt_get d'), List.getElem?_set_ne (Ne.symm hne)]; exact d'
 ·show (σ.tmps.set p.s _)[i]? = (τ.tmps.set p.s _)[i]?
  rw [List.getElem?_set_ne (hi p hp), List.getElem?_set_ne (hi p hp)]; exact h4 i hi
 ·show (σ.heap.set q .dead ++ [p.o])[r']? = (τ.heap.set q .dead ++ [AObj.tok 0 0])[r']?
  have hne : r' ≠ τ.heap.length := fun e => by
   refine hr' p hp ?_
   show (τ.tmps.set p.s _)[p.s]? = _
   rw [List.getElem?_set_self hsl, e]
  rcases Nat.lt_trichotomy r' τ.heap.length with g | g | g
  ·rw [get_app (by rw [List.length_set]; omega), get_app (by rw [List.length_set]; exact g)]
   by_cases e : q = r'
   ·subst e
    rw [List.getElem?_set_self (by omega), List.getElem?_set_self g]
   ·rw [List.getElem?_set_ne e, List.getElem?_set_ne e]
    refine h5 r' fun p' hp' e' => ?_
    by_cases ep : p'.s = p.s
    ·obtain rfl := hd p' hp' ep
     rw [a] at e'; cases e'; exact e rfl
    ·refine hr' p' hp' ?_
     show (τ.tmps.set p.s _)[p'.s]? = _
     rw [List.getElem?_set_ne (Ne.symm ep)]; exact e'
  ·exact absurd g hne
  ·rw [get_past (by rw [List.length_set]; omega), get_past (by rw [List.length_set]; exact g)]
 ·show r' < (τ.heap.set q .dead ++ [AObj.tok 0 0]).length
  simp only [List.length_append, List.length_set, List.length_cons, List.length_nil]
  by_cases e : s' = p.s
  ·subst e
   rw [hself] at hr'; cases hr'; omega
  ·rw [hother s' e] at hr'
   have := h6 s' hs' r' hr'
   omega
 ·by_cases e : u = p.s
  ·subst e
   rw [hself] at hr'; cases hr'
   rw [hother v (Ne.symm huv)]
   intro hb'
   have := h6 v hv _ hb'
   omega
  ·rw [hother u e] at hr'
   by_cases e2 : v = p.s
   ·subst e2
    rw [hself]
    intro hb'
    cases hb'
    have := h6 u hu _ hr'
    omega
   ·rw [hother v e2]; exact h7 u hu v hv huv r' hr'
theorem Rl.move {ps : List Ph} {acc : List Nat} {σ τ : St} (h : Rl ps acc σ τ) {s : Nat} (hs : s ∈ acc) (hps : ∀ p ∈ ps, p.s ∈ acc) (hd : ∀ p ∈ ps, ∀ p' ∈ ps, p'.s = p.s → p' = p) : Rl ps acc (moveT σ s) (moveT τ s) := by
 by_cases hp : ∃ p ∈ ps, p.s = s
 ·obtain ⟨p, hp, rfl⟩ := hp
  obtain ⟨q, a, b, c, d⟩ := h.at_ p hp
  rw [move_ph p.mv b d, move_ph (d := fun q => .tsl q []) (Mv.tok [] 0 0) a c]
  exact h.putp hp hps (hd p hp) a b c d
 ·have hn : ∀ p ∈ ps, p.s ≠ s := fun p hp' e => hp ⟨p, hp', e⟩
  have ht := h.tmp s hn
  unfold moveT
  rw [ht]
  cases hx : τ.tmps[s]? with
  | none => exact h.pad
  | some x =>
   cases hr : x.ref? with
   | none => simp only [hr]; exact h.pad
   | some r =>
    have ho : σ.heap[r]? = τ.heap[r]? := h.obj r fun p hp' e => h.ne s hs p.s (hps p hp') (Ne.symm (hn p hp')) r ((refOf_get hx).trans hr) ((refOf_get e).trans rfl)
    simp only [hr, ho]
    cases hg : τ.heap[r]? with
    | none => exact h.pad
    | some o =>
     by_cases hl : o.live = true
     ·simp only [hl, if_true]
      exact h.put hs hps hn hx hr
     ·simp only [hl, if_false]
      exact h.pad
theorem Rl.moves {ps : List Ph} {acc : List Nat} (hps : ∀ p ∈ ps, p.s ∈ acc) (hd : ∀ p ∈ ps, ∀ p' ∈ ps, p'.s = p.s → p' = p) : ∀ (l : List Nat) {σ τ : St}, (∀ s ∈ l, s ∈ acc) → Rl ps acc σ τ → Rl ps acc (l.foldl moveT σ) (l.foldl moveT τ)
 | [], _, _, _, h => h
 | s :: l, _, _, hl, h => by
  rw [List.foldl_cons, List.foldl_cons]
  exact Rl.moves hps hd l (fun x hx => hl x (List.mem_cons_of_mem _ hx)) (h.move (hl s List.mem_cons_self) hps hd)
theorem back_eq : ∀ (ps : List Ph) (σ τ : St), σ.tmps.length = τ.tmps.length → σ.heap.length = τ.heap.length → (∀ p ∈ ps, ∀ p' ∈ ps, p'.s = p.s → p' = p) → (ps.map Ph.s).Nodup →
  (∀ p ∈ ps, ∃ q, τ.tmps[p.s]? = some (.tsl q []) ∧ σ.tmps[p.s]? = some (p.d q) ∧ σ.heap[q]? = some p.o) → (∀ p ∈ ps, ∀ p' ∈ ps, p.s ≠ p'.s → ∀ r, τ.tmps[p.s]? = some (.tsl r []) → τ.tmps[p'.s]? ≠ some (.tsl r [])) →
  (∀ i, (∀ p ∈ ps, p.s ≠ i) → σ.tmps[i]? = τ.tmps[i]?) → (∀ r, (∀ p ∈ ps, τ.tmps[p.s]? ≠ some (.tsl r [])) → σ.heap[r]? = τ.heap[r]?) → ps.foldl back1 τ = σ
 | [], σ, τ, h1, h2, _, _, _, _, h4, h5 => by
  obtain ⟨st, sh⟩ := σ
  obtain ⟨tt, th⟩ := τ
  have e1 : st = tt := List.ext_getElem? fun i => h4 i fun p hp => nomatch hp
  have e2 : sh = th := List.ext_getElem? fun i => h5 i fun p hp => nomatch hp
  subst e1; subst e2; rfl
 | p :: ps, σ, τ, h1, h2, hd, hnd, h3, hdis, h4, h5 => by
  rw [List.foldl_cons]
  obtain ⟨q, a, b, c⟩ := h3 p List.mem_cons_self
  have e : back1 τ p = ⟨τ.tmps.set p.s (p.d q), τ.heap.set q p.o⟩ := by unfold back1; rw [a]
  rw [e]
  rw [List.map_cons, List.nodup_cons] at hnd
  have hne : ∀ p' ∈ ps, p.s ≠ p'.s := fun p' hp' e => hnd.1 (e ▸ List.mem_map_of_mem hp')
  have hold : ∀ p' ∈ ps, (τ.tmps.set p.s (p.d q))[p'.s]? = τ.tmps[p'.s]? := fun p' hp' => List.getElem?_set_ne (hne p' hp')
  refine back_eq ps σ ⟨τ.tmps.set p.s (p.d q), τ.heap.set q p.o⟩ (by simp [h1]) (by simp [h2]) (fun x hx y hy => hd x (List.mem_cons_of_mem _ hx) y (List.mem_cons_of_mem _ hy)) hnd.2 (fun p' hp' => ?_) (fun x hx y hy hxy r hr => ?_) (fun i hi => ?_) (fun r hr => ?_)
  ·obtain ⟨q', a', b', c'⟩ := h3 p' (List.mem_cons_of_mem _ hp')
   exact ⟨q', (hold p' hp').trans a', b', c'⟩
  ·show (τ.tmps.set p.s (p.d q))[y.s]? ≠ _
   rw [hold y hy]
   exact hdis x (List.mem_cons_of_mem _ hx) y (List.mem_cons_of_mem _ hy) hxy r ((hold x hx).symm.trans hr)
  ·show σ.tmps[i]? = (τ.tmps.set p.s (p.d q))[i]?
   by_cases ei : p.s = i
   ·subst ei
    rw [List.getElem?_set_self (lt_get a), b]
   ·rw [List.getElem?_set_ne ei]
    exact h4 i fun x hx => by
     rcases List.mem_cons.1 hx with rfl | hx
     ·exact ei
     ·exact hi x hx
  ·show σ.heap[r]? = (τ.heap.set q p.o)[r]?
   by_cases er : q = r
   ·subst er
    rw [List.getElem?_set_self (by have := lt_get c; omega), c]
   ·rw [List.getElem?_set_ne er]
    refine h5 r fun x hx => ?_
    rcases List.mem_cons.1 hx with rfl | hx
    ·rw [a]; intro e'; cases e'; exact er rfl
    ·intro e'
     exact hr x hx ((hold x hx).trans e')
theorem cutD_move {keep : List Nat} {L M i q : Nat} {d : Nat → D} {o : AObj} (m : Mv d o) {e : D} (hk : keep.contains i = true) (h : cutD keep L M i (.tsl q []) = some e) : ∃ q1, (q1 = q ∧ q < L ∨ M ≤ q ∧ ¬ q < L ∧ q1 = q - (M - L)) ∧ e = .tsl q1 [] ∧ cutD keep L M i (d q) = some (d q1) := by
 unfold cutD at h ⊢
 rw [if_pos hk] at h ⊢
 have hu : D.under L 5 (.tsl q []) = decide (q < L) := rfl
 rw [hu] at h
 by_cases hq : q < L
 ·rw [if_pos (by simpa using hq)] at h
  cases h
  refine ⟨q, .inl ⟨rfl, hq⟩, rfl, ?_⟩
  rcases m.two with ⟨m1, m2, m3, m4⟩ | ⟨m1, m2, m3, m4⟩
  ·rw [m3, if_pos (by simpa using hq)]
  ·rw [m3, if_pos rfl]
 ·rw [if_neg (by simpa using hq)] at h
  have hr : D.ref? (.tsl q []) = some q := rfl
  rw [hr] at h
  simp only at h
  split at h
  ·rename_i hM
   cases h
   refine ⟨q - (M - L), .inr ⟨hM, hq, rfl⟩, rfl, ?_⟩
   rcases m.two with ⟨m1, m2, m3, m4⟩ | ⟨m1, m2, m3, m4⟩
   ·rw [m3, if_neg (by simpa using hq), m1]
    simp only [if_pos hM, m2]
   ·rw [m3, if_pos rfl, m1 (q - (M - L)) q]
  ·cases h
theorem phs_len : ∀ (ps : List Ph) (σ : St), (ps.foldl ph1 σ).tmps.length = σ.tmps.length ∧ (ps.foldl ph1 σ).heap.length = σ.heap.length
 | [], _ => ⟨rfl, rfl⟩
 | p :: ps, σ => by
  obtain ⟨a, b⟩ := phs_len ps (ph1 σ p)
  rw [List.foldl_cons]
  exact ⟨a.trans (by simp [ph1]), b.trans (by simp [ph1])⟩
theorem phs_tmp : ∀ (ps : List Ph) (σ : St) (i : Nat), (∀ p ∈ ps, p.s ≠ i) → (ps.foldl ph1 σ).tmps[i]? = σ.tmps[i]?
 | [], _, _, _ => rfl
 | p :: ps, σ, i, h => by
  rw [List.foldl_cons, phs_tmp ps (ph1 σ p) i fun x hx => h x (List.mem_cons_of_mem _ hx)]
  exact List.getElem?_set_ne (h p List.mem_cons_self)
theorem phs_obj : ∀ (ps : List Ph) (σ : St) (r : Nat), (∀ p ∈ ps, p.q ≠ r) → (ps.foldl ph1 σ).heap[r]? = σ.heap[r]?
 | [], _, _, _ => rfl
 | p :: ps, σ, r, h => by
  rw [List.foldl_cons, phs_obj ps (ph1 σ p) r fun x hx => h x (List.mem_cons_of_mem _ hx)]
  exact List.getElem?_set_ne (h p List.mem_cons_self)
theorem phs_tok : ∀ (ps : List Ph) (σ : St) (r : Nat), σ.heap[r]? = some (.tok 0 0) → (ps.foldl ph1 σ).heap[r]? = some (.tok 0 0)
 | [], _, _, h => h
 | p :: ps, σ, r, h => by
  rw [List.foldl_cons]
  refine phs_tok ps (ph1 σ p) r ?_
  show (σ.heap.set p.q (.tok 0 0))[r]? = _
  by_cases e : p.q = r
  ·subst e; exact List.getElem?_set_self (lt_get h)
  ·rw [List.getElem?_set_ne e]; exact h
theorem phs_at : ∀ (ps : List Ph) (σ : St), (ps.map Ph.s).Nodup → (∀ p ∈ ps, p.s < σ.tmps.length ∧ p.q < σ.heap.length) → ∀ p ∈ ps, (ps.foldl ph1 σ).tmps[p.s]? = some (.tsl p.q []) ∧ (ps.foldl ph1 σ).heap[p.q]? = some (.tok 0 0)
 | [], _, _, _, p, hp => nomatch hp
 | x :: ps, σ, hn, hb, p, hp => by
  rw [List.map_cons, List.nodup_cons] at hn
  rw [List.foldl_cons]
  have hx := hb x List.mem_cons_self
  rcases List.mem_cons.1 hp with rfl | hp
  ·constructor
   ·rw [phs_tmp ps _ _ fun y hy e => hn.1 (by rw [← e]; exact List.mem_map_of_mem (f := Ph.s) hy)]
    exact List.getElem?_set_self hx.1
   ·exact phs_tok ps _ _ (List.getElem?_set_self hx.2)
  ·exact phs_at ps (ph1 σ x) hn.2 (fun y hy => by simpa [ph1] using hb y (List.mem_cons_of_mem _ hy)) p hp
theorem fm_inj {f : Nat → Option Nat} : ∀ {l : List Nat}, (l.filterMap f).Nodup → ∀ {a b r : Nat}, a ∈ l → b ∈ l → a ≠ b → f a = some r → f b ≠ some r
 | [], _, _, _, _, h, _, _, _, _ => nomatch h
 | x :: l, hn, a, b, r, ha, hb, hab, h1, h2 => by
  cases hx : f x with
  | none =>
   rw [List.filterMap_cons, hx] at hn
   have ha' : a ∈ l := (List.mem_cons.1 ha).resolve_left fun e => by rw [e, hx] at h1; cases h1
   have hb' : b ∈ l := (List.mem_cons.1 hb).resolve_left fun e => by rw [e, hx] at h2; cases h2
   exact fm_inj hn ha' hb' hab h1 h2
  | some y =>
   rw [List.filterMap_cons, hx] at hn
   have hn := List.nodup_cons.1 hn
   rcases List.mem_cons.1 ha with ea | ha'
   ·subst ea
    rw [hx] at h1; cases h1
    have hb' : b ∈ l := (List.mem_cons.1 hb).resolve_left fun e => hab e.symm
    exact hn.1 (List.mem_filterMap.2 ⟨b, hb', h2⟩)
   ·rcases List.mem_cons.1 hb with eb | hb'
    ·subst eb
     rw [hx] at h2; cases h2
     exact hn.1 (List.mem_filterMap.2 ⟨a, ha', h1⟩)
    ·exact fm_inj hn.2 ha' hb' hab h1 h2
theorem allM_total {α β : Type} {f : α → Option β} : ∀ {l : List α}, (∀ x ∈ l, ∃ y, f x = some y) → ∃ ys, allM f l = some ys
 | [], _ => ⟨[], rfl⟩
 | a :: r, h => by
  obtain ⟨y, hy⟩ := h a List.mem_cons_self
  obtain ⟨ys, hys⟩ := allM_total (f := f) (l := r) fun x hx => h x (List.mem_cons_of_mem _ hx)
  exact ⟨y :: ys, by simp only [allM, hy, hys]⟩
theorem sq_cut_get {α : Type} {l : List α} {L M : Nat} (hL : L ≤ l.length) (r : Nat) : (l.take L ++ l.drop M)[r]? = l[if r < L then r else M + (r - L)]? := by
 have ht : (l.take L).length = L := by rw [List.length_take]; omega
 by_cases h : r < L
 ·rw [if_pos h, List.getElem?_append_left (by omega), List.getElem?_take_of_lt h]
 ·rw [if_neg h, List.getElem?_append_right (by omega), ht, List.getElem?_drop]
theorem allM_same {α : Type} {f : α → Option α} : ∀ {l : List α}, (∀ x ∈ l, f x = some x) → allM f l = some l
 | [], _ => rfl
 | a :: r, h => by
  have ih := allM_same (f := f) (l := r) fun x hx => h x (List.mem_cons_of_mem _ hx)
  simp only [allM, h a List.mem_cons_self, ih]
theorem cut_under {L M : Nat} {o : AObj} (h : o.under L = true) : AObj.cut L M o = some o := by
 cases o with
 | cells cs =>
  have h : cs.all (D.under L 5) = true := h
  rw [List.all_eq_true] at h
  show (allM (cutC L M) cs).map AObj.cells = _
  rw [allM_same fun d hd => by unfold cutC; rw [if_pos (h d hd)]]
  rfl
 | _ => simp only [AObj.cut, h, if_true]
theorem move_len (σ : St) (s : Nat) : (moveT σ s).heap.length = σ.heap.length + 1 := by
 unfold moveT padS
 repeat' split
 all_goals simp
theorem moves_len : ∀ (l : List Nat) (σ : St), (l.foldl moveT σ).heap.length = σ.heap.length + l.length
 | [], _ => rfl
 | s :: l, σ => by rw [List.foldl_cons, moves_len l, move_len, List.length_cons]; omega
theorem cut_ph {ps : List Ph} {keep acc : List Nat} {L M : Nat} {σ τ σ' : St} (R : Rl ps acc σ τ) (hps : ∀ p ∈ ps, p.s ∈ acc) (hd : ∀ p ∈ ps, ∀ p' ∈ ps, p'.s = p.s → p' = p) (n2 : (ps.map Ph.s).Nodup) (hkeep : ∀ p ∈ ps, keep.contains p.s = true) (hL : L ≤ M) (hM : M ≤ τ.heap.length)
  (h : (cutQ keep L M τ).map (fun τ => ps.foldl back1 τ) = some σ') : cutS keep L M σ = σ' := by
 obtain ⟨h1, h2, h3, h4, h5, h6, h7⟩ := R
 unfold cutQ at h
 split at h
 case isFalse => cases h
 rename_i hall
 rw [Option.map_map] at h
 obtain ⟨ts, hts, rfl⟩ := Option.map_eq_some_iff.1 h
 obtain ⟨t1, t2⟩ := allM_spec hts
 rw [List.length_mapIdx] at t1
 rw [Bool.and_eq_true, List.all_eq_true, List.all_eq_true] at hall
 -- objects
 have hund : ∀ (r : Nat) (o : AObj), σ.heap[r]? = some o → (∀ o' : AObj, τ.heap[r]? = some o' → o'.under L = true) → o.under L = true := by
  intro r o hr hu
  by_cases hp : ∃ p ∈ ps, τ.tmps[p.s]? = some (.tsl r [])
  ·obtain ⟨p, hp, e⟩ := hp
   obtain ⟨q, a, b, c, d⟩ := h3 p hp
   rw [a] at e; cases e
   rw [d] at hr; cases hr
   exact p.mv.und L
  ·rw [h5 r fun p hp' e => hp ⟨p, hp', e⟩] at hr
   exact hu o hr
 have hall' : ((σ.heap.take L).all (AObj.under L) && (σ.heap.drop M).all (AObj.under L)) = true := by
  rw [Bool.and_eq_true, List.all_eq_true, List.all_eq_true]
  refine ⟨fun o ho => ?_, fun o ho => ?_⟩
  ·obtain ⟨r, hr⟩ := List.getElem?_of_mem ho
   have hrl : r < L := by
    have := lt_get hr
    rw [List.length_take] at this; omega
   rw [List.getElem?_take_of_lt hrl] at hr
   exact hund r o hr fun o' ho' => hall.1 o' (List.mem_of_getElem? ((List.getElem?_take_of_lt hrl).trans ho'))
  ·obtain ⟨r, hr⟩ := List.getElem?_of_mem ho
   rw [List.getElem?_drop] at hr
   exact hund (M + r) o hr fun o' ho' => hall.2 o' (List.mem_of_getElem? (i := r) (by rw [List.getElem?_drop]; exact ho'))
 -- slots
 have hτ : ∀ i d, τ.tmps[i]? = some d → ∃ e, ts[i]? = some e ∧ cutD keep L M i d = some e := by
  intro i d hi
  have hil := lt_get hi
  obtain ⟨e, he⟩ : ∃ e, ts[i]? = some e := ⟨_, List.getElem?_eq_getElem (by omega)⟩
  refine ⟨e, he, ?_⟩
  exact t2 i (cutD keep L M i d) e (by rw [List.getElem?_mapIdx, hi]; rfl) he
 have hσ0 : ∀ i d, σ.tmps[i]? = some d → ∃ e, cutD keep L M i d = some e := by
  intro i d hi
  by_cases hp : ∃ p ∈ ps, p.s = i
  ·obtain ⟨p, hp, rfl⟩ := hp
   obtain ⟨q, a, b, _, _⟩ := h3 p hp
   obtain ⟨e, _, he⟩ := hτ p.s _ a
   obtain ⟨q1, _, _, hq⟩ := cutD_move p.mv (hkeep p hp) he
   rw [b] at hi; cases hi
   exact ⟨_, hq⟩
  ·rw [h4 i fun p hp' e => hp ⟨p, hp', e⟩] at hi
   obtain ⟨e, _, he⟩ := hτ i d hi
   exact ⟨e, he⟩
 obtain ⟨us, hus⟩ := allM_total (f := id) (l := σ.tmps.mapIdx (cutD keep L M)) fun x hx => by
  obtain ⟨i, hi⟩ := List.getElem?_of_mem hx
  rw [List.getElem?_mapIdx] at hi
  obtain ⟨d, hd', rfl⟩ := Option.map_eq_some_iff.1 hi
  exact hσ0 i d hd'
 obtain ⟨u1, u2⟩ := allM_spec hus
 rw [List.length_mapIdx] at u1
 have hσ : ∀ i d, σ.tmps[i]? = some d → ∃ e, us[i]? = some e ∧ cutD keep L M i d = some e := by
  intro i d hi
  have hil := lt_get hi
  obtain ⟨e, he⟩ : ∃ e, us[i]? = some e := ⟨_, List.getElem?_eq_getElem (by omega)⟩
  refine ⟨e, he, ?_⟩
  exact u2 i (cutD keep L M i d) e (by rw [List.getElem?_mapIdx, hi]; rfl) he
 have hcut : cutS keep L M σ = ⟨us, σ.heap.take L ++ σ.heap.drop M⟩ := by
  rw [Bool.and_eq_true, List.all_eq_true] at hall'
  unfold cutS
  rw [if_pos hall'.2, hus, allM_same fun o ho => cut_under (hall'.1 o ho)]
 rw [hcut]
 -- where placeholders are
 have hp1 : ∀ p ∈ ps, ∃ q q1, τ.tmps[p.s]? = some (.tsl q []) ∧ (q1 = q ∧ q < L ∨ M ≤ q ∧ ¬ q < L ∧ q1 = q - (M - L)) ∧ ts[p.s]? = some (.tsl q1 []) ∧ us[p.s]? = some (p.d q1) ∧ σ.heap[q]? = some p.o := by
  intro p hp
  obtain ⟨q, a, b, c, d⟩ := h3 p hp
  obtain ⟨e, e1, e2⟩ := hτ p.s _ a
  obtain ⟨q1, g1, g2, g3⟩ := cutD_move p.mv (hkeep p hp) e2
  obtain ⟨e', e3, e4⟩ := hσ p.s _ b
  rw [g3] at e4; cases e4
  subst g2
  exact ⟨q, q1, a, g1, e1, e3, d⟩
 refine (back_eq ps ⟨us, σ.heap.take L ++ σ.heap.drop M⟩ ⟨ts, τ.heap.take L ++ τ.heap.drop M⟩ ?_ ?_ hd n2 ?_ ?_ ?_ ?_).symm
 ·show us.length = ts.length
  omega
 ·simp only [List.length_append, List.length_take, List.length_drop, h2]
 ·intro p hp
  obtain ⟨q, q1, a, g, b, c, d⟩ := hp1 p hp
  refine ⟨q1, b, c, ?_⟩
  show (σ.heap.take L ++ σ.heap.drop M)[q1]? = _
  rw [sq_cut_get (by omega)]
  rcases g with ⟨rfl, g⟩ | ⟨g1, g2, rfl⟩
  ·rw [if_pos g]; exact d
  ·rw [if_neg (by omega), show M + (q - (M - L) - L) = q by omega]; exact d
 ·intro p hp p' hp' hne r hr hr'
  have hr : ts[p.s]? = some (.tsl r []) := hr
  have hr' : ts[p'.s]? = some (.tsl r []) := hr'
  obtain ⟨q, q1, a, g, b, _, _⟩ := hp1 p hp
  obtain ⟨q', q1', a', g', b', _, _⟩ := hp1 p' hp'
  rw [b] at hr; cases hr
  rw [b'] at hr'
  cases hr'
  have hq : q = q' := by omega
  subst hq
  exact h7 p.s (hps p hp) p'.s (hps p' hp') hne q ((refOf_get a).trans rfl) ((refOf_get a').trans rfl)
 ·intro i hi
  show us[i]? = ts[i]?
  have ht := h4 i hi
  cases hx : τ.tmps[i]? with
  | none =>
   rw [hx] at ht
   have g1 := List.getElem?_eq_none_iff.1 ht
   rw [List.getElem?_eq_none (by omega), List.getElem?_eq_none (by omega)]
  | some d =>
   rw [hx] at ht
   obtain ⟨e, e1, e2⟩ := hτ i d hx
   obtain ⟨e', e3, e4⟩ := hσ i d ht
   rw [e2] at e4; cases e4
   rw [e1, e3]
 ·intro r hr
  show (σ.heap.take L ++ σ.heap.drop M)[r]? = (τ.heap.take L ++ τ.heap.drop M)[r]?
  rw [sq_cut_get (by omega), sq_cut_get (by omega)]
  refine h5 _ fun p hp e => ?_
  obtain ⟨q, q1, a, g, b, _, _⟩ := hp1 p hp
  rw [a] at e
  have e : q = if r < L then r else M + (r - L) := by injection e with e; injection e
  refine hr p hp ?_
  show ts[p.s]? = _
  rw [b]
  have : q1 = r := by
   split at e <;> omega
  rw [this]
theorem fold_moveT : ∀ (l : List Nat) (σ : St), (∀ s ∈ l, s < 100000) → l.foldl moveS σ = l.foldl moveT σ
 | [], _, _ => rfl
 | s :: l, σ, h => by
  have e : moveS σ s = moveT σ s := by unfold moveS; rw [if_pos (h s List.mem_cons_self)]
  rw [List.foldl_cons, List.foldl_cons, e]
  exact fold_moveT l _ fun x hx => h x (List.mem_cons_of_mem _ hx)
theorem squash_ph {keep acc : List Nat} {L : Nat} {σ σ' : St} (ps : List Ph)
  (hs : (ps.map fun p => (σ.tmps[p.s]?, σ.heap[p.q]?)) = ps.map fun p => (some (p.d p.q), some p.o))
  (hk : (!(ps.map Ph.s).isEmpty && decide (L ≤ σ.heap.length) && phOk keep acc (ps.map Ph.s) (ps.foldl ph1 σ)) = true)
  (h : (squashQ keep acc L (ps.foldl ph1 σ)).map (fun τ => ps.foldl back1 τ) = some σ') : squash keep acc L σ = σ' := by
 rw [Bool.and_eq_true, Bool.and_eq_true] at hk
 obtain ⟨⟨hk0, hk1⟩, hk2⟩ := hk
 have hL : L ≤ σ.heap.length := of_decide_eq_true hk1
 unfold phOk at hk2
 simp only [Bool.and_eq_true] at hk2
 obtain ⟨⟨⟨⟨⟨k0, k1⟩, k2⟩, k3⟩, k4⟩, k5⟩ := hk2
 rw [List.all_eq_true] at k0
 have n1 := distinct_nodup k1
 have n2 := distinct_nodup k2
 have n4 := distinct_nodup k4
 rw [List.all_eq_true] at k3 k5
 have hsl : ∀ p ∈ ps, p.s ∈ acc ∧ keep.contains p.s = true := fun p hp => by
  have := k3 p.s (List.mem_map_of_mem hp)
  rw [Bool.and_eq_true] at this
  exact ⟨by simpa using this.1, this.2⟩
 have hps : ∀ p ∈ ps, p.s ∈ acc := fun p hp => (hsl p hp).1
 have hd : ∀ p ∈ ps, ∀ p' ∈ ps, p'.s = p.s → p' = p := by
  clear hs h hk0 k2 k3 k4 k5 n4 hsl hps
  induction ps with
  | nil => intro p hp; cases hp
  | cons x r ih =>
   rw [List.map_cons, List.nodup_cons] at n2
   intro p hp p' hp' e
   rcases List.mem_cons.1 hp with rfl | hpr
   ·rcases List.mem_cons.1 hp' with rfl | hpr'
    ·rfl
    ·exact absurd (List.mem_map_of_mem (f := Ph.s) hpr') (by rw [e]; exact n2.1)
   ·rcases List.mem_cons.1 hp' with rfl | hpr'
    ·exact absurd (List.mem_map_of_mem (f := Ph.s) hpr) (by rw [← e]; exact n2.1)
    ·exact ih n2.2 p hpr p' hpr' e
 have hst : ∀ p ∈ ps, σ.tmps[p.s]? = some (p.d p.q) ∧ σ.heap[p.q]? = some p.o := by
  intro p hp
  have := List.map_inj_left.1 hs p hp
  exact ⟨congrArg Prod.fst this, congrArg Prod.snd this⟩
 obtain ⟨l1, l2⟩ := phs_len ps σ
 have hat := phs_at ps σ n2 fun p hp => ⟨lt_get (hst p hp).1, lt_get (hst p hp).2⟩
 have R0 : Rl ps acc σ (ps.foldl ph1 σ) := by
  refine ⟨l1.symm, l2.symm, fun p hp => ⟨p.q, (hat p hp).1, (hst p hp).1, (hat p hp).2, (hst p hp).2⟩, fun i hi => (phs_tmp ps σ i hi).symm, fun r hr => (phs_obj ps σ r fun p hp e => hr p hp (e ▸ (hat p hp).1)).symm, fun s hs' r hr => ?_, fun s hs' s' hs'' hne r hr => fm_inj n4 hs' hs'' hne hr⟩
  exact of_decide_eq_true (k5 r (List.mem_filterMap.2 ⟨s, hs', hr⟩))
 have R2 := R0.moves hps hd acc (fun s hs' => hs')
 have hne : acc.isEmpty = false := by
  cases hp : ps with
  | nil => rw [hp] at hk0; cases hk0
  | cons p r =>
   have := hps p (by rw [hp]; exact List.mem_cons_self)
   cases acc with
   | nil => cases this
   | cons _ _ => rfl
 unfold squash
 rw [hne, Bool.false_and, if_neg (by decide)]
 unfold squashQ at h
 rw [l2] at h
 rw [fold_moveT acc σ fun s hs' => of_decide_eq_true (k0 s hs')]
 refine cut_ph R2 hps hd n2 (fun p hp => (hsl p hp).2) hL ?_ h
 rw [moves_len, l2]; omega
end Go.Abs
