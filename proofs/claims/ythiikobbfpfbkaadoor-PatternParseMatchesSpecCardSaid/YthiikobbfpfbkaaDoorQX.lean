import Derived.Test.YthiikobbfpfbkaaDoorPX
namespace Go.Abs
open Go.Sort Go.Proofs
set_option linter.unusedVariables false
set_option maxRecDepth 100000
inductive Md where
 | out | set (e : Bool) | esc (s : Bool) | br (k : Nat)
deriving DecidableEq
structure AS where
 md : Md
 pile : Nat
 need : Bool
 was : Bool
def plC (c : Nat) : Bool := !specL.contains c && c != 0
def sg (c : Nat) : S81 := ⟨(c : Int), true⟩
def pl (c : Nat) : S81 := ⟨(c : Int), false⟩
def stepA (s : AS) (c : Nat) : Option (AS × List S81) := match s.md with
 | .out =>
  if c = 92 then some (⟨.esc false, s.pile, s.need, false⟩, [])
  else if plC c = true then some (⟨.out, s.pile, false, false⟩, [pl c])
  else if c = 91 then some (⟨.set false, s.pile, s.need, false⟩, [sg c])
  else if c = 40 then (if s.pile = 80 then none else some (⟨.out, s.pile + 1, true, true⟩, [sg c]))
  else if c = 41 ∧ 0 < s.pile ∧ (s.need = false ∨ s.was = true) then some (⟨.out, s.pile - 1, false, false⟩, [sg c])
  else if (c = 124 ∨ c = 38 ∨ c = 45) ∧ s.need = false then some (⟨.out, s.pile, true, false⟩, [sg c])
  else if (c = 42 ∨ c = 43 ∨ c = 63) ∧ s.need = false then some (⟨.out, s.pile, false, false⟩, [sg c])
  else if c = 123 ∧ s.need = false then some (⟨.br 1, s.pile, false, false⟩, [sg c])
  else none
 | .set e =>
  if c = 92 then some (⟨.esc true, s.pile, s.need, false⟩, [])
  else if plC c = true then some (⟨.set true, s.pile, s.need, false⟩, [pl c])
  else if c = 93 ∧ e = true then some (⟨.out, s.pile, false, false⟩, [sg c])
  else none
 | .esc b => if c = 0 then none else some (⟨if b then .set true else .out, s.pile, if b then s.need else false, false⟩, [pl c])
 | .br 1 => if 48 ≤ c ∧ c ≤ 57 then some (⟨.br 2, s.pile, false, false⟩, [sg c]) else none
 | .br 2 => if c = 44 then some (⟨.br 3, s.pile, false, false⟩, [sg c]) else none
 | .br 3 => if 48 ≤ c ∧ c ≤ 57 then some (⟨.br 4, s.pile, false, false⟩, [sg c]) else if c = 125 then some (⟨.out, s.pile, false, false⟩, [sg c]) else none
 | .br _ => if c = 125 then some (⟨.out, s.pile, false, false⟩, [sg c]) else none
def preA (e : List S81) : List S81 ⊕ List Nat → List S81 ⊕ List Nat
 | .inl l => .inl (e ++ l)
 | .inr t => .inr t
def itA : AS → List Nat → List S81 ⊕ List Nat
 | s, [] => if s.md = .out ∧ s.need = false ∧ s.pile = 0 then .inl [] else .inr []
 | s, c :: r => match stepA s c with
  | none => .inr (c :: r)
  | some (s', e) => preA e (itA s' r)
theorem itA_some {s s' : AS} {c : Nat} {r : List Nat} {e : List S81} (h : stepA s c = some (s', e)) : itA s (c :: r) = preA e (itA s' r) := by
 rw [itA.eq_2, h]
theorem itA_none {s : AS} {c : Nat} {r : List Nat} (h : stepA s c = none) : itA s (c :: r) = .inr (c :: r) := by
 rw [itA.eq_2, h]
theorem preA_nil (x : List S81 ⊕ List Nat) : preA [] x = x := by cases x <;> rfl
theorem preA_app (a b : List S81) (x : List S81 ⊕ List Nat) : preA a (preA b x) = preA (a ++ b) x := by cases x <;> simp [preA]
def encM : Md → Int
 | .out => 0
 | .set false => 1
 | .set true => 2
 | _ => 0
def mainM : Md → Bool
 | .out | .set _ => true
 | _ => false
theorem spec_mem (c : Nat) : specL.contains c = true ↔ c = 40 ∨ c = 41 ∨ c = 91 ∨ c = 93 ∨ c = 124 ∨ c = 38 ∨ c = 45 ∨ c = 42 ∨ c = 43 ∨ c = 63 ∨ c = 123 ∨ c = 125 ∨ c = 44 ∨ c = 92 := by
 simp [specL]
theorem plC_iff (c : Nat) : plC c = true ↔ c ≠ 0 ∧ ¬ (c = 40 ∨ c = 41 ∨ c = 91 ∨ c = 93 ∨ c = 124 ∨ c = 38 ∨ c = 45 ∨ c = 42 ∨ c = 43 ∨ c = 63 ∨ c = 123 ∨ c = 125 ∨ c = 44 ∨ c = 92) := by
 rw [← spec_mem]
 unfold plC
 cases specL.contains c <;> simp
abbrev St30 := (List S81) × Int × Int × Bool × Bool × Int
def st30 (acc : List S81) (s : AS) (i : Nat) : St30 := (acc, (s.pile : Int), encM s.md, s.need, s.was, (i : Int))
noncomputable def B30 (m : Nat) (a0 : List Int) : St30 → Option (Stp ((List S81) × Int) St30) := fun y => f30_B33 m a0 y.1 y.2.1 y.2.2.1 y.2.2.2.1 y.2.2.2.2.1 y.2.2.2.2.2
noncomputable def fin30 (m : Nat) (a0 : List Int) (o : Option (((List S81) × Int) ⊕ St30)) : Option ((List S81) × Int) :=
 brk o some fun y => f30_r35 m a0 y (y.2.2.2.1 || (decide (y.2.1 > 0)))
def ans (n : Nat) (acc : List S81) : List S81 ⊕ List Nat → (List S81) × Int
 | .inl l => (acc ++ l, -1)
 | .inr t => ([], ((n - t.length : Nat) : Int))
theorem ans_pre (n : Nat) (acc e : List S81) (x : List S81 ⊕ List Nat) : ans n acc (preA e x) = ans n (acc ++ e) x := by
 cases x with
 | inl l => simp [ans, preA]
 | inr t => rfl
theorem sg30 (m : Nat) (acc : List S81) (hacc : acc.length ≤ 10000) (a b : Int) (c d : Bool) (i : Nat) (hi : i ≤ 10000) (x : Nat) :
  f30_j2 m acc a b c d (i : Int) (x : Int) = some (.nxt (acc ++ [sg x], a, b, c, d, ((i + 1 : Nat) : Int))) := by
 have hwi : w64 ((i : Int) + 1) = ((i + 1 : Nat) : Int) := by rw [w64_id ⟨by omega, by omega⟩]; omega
 unfold f30_j2 f30_j1
 rw [app_some 16 acc _ (by simp; omega) (by simp; omega), bnd_some', hwi]
 rfl
theorem eqN (a b : Nat) : ((a : Int) == (b : Int)) = decide (a = b) := by
 rw [Bool.eq_iff_iff]
 simp only [beq_iff_eq, decide_eq_true_eq]
 omega
theorem neN (a b : Nat) : ((a : Int) != (b : Int)) = decide (a ≠ b) := by
 rw [Bool.eq_iff_iff]
 simp only [bne_iff_ne, ne_eq, decide_eq_true_eq]
 omega
inductive Turn (l : List Nat) (acc : List S81) (s : AS) (i : Nat) (t : List Nat) : Option (Stp ((List S81) × Int) St30) → Prop where
 | go (e : List S81) (s' : AS) (k : Nat) (t' : List Nat) (hm : mainM s'.md = true) (hp : s'.pile ≤ 80) (hi : i < k) (hc : Cut l k t') (ha : (acc ++ e).length ≤ k) (hr : itA s t = preA e (itA s' t')) : Turn l acc s i t (some (.nxt (st30 (acc ++ e) s' k)))
 | bad (t' : List Nat) (k : Nat) (hk : k + t'.length = l.length) (hr : itA s t = .inr t') : Turn l acc s i t (some (.ret ([], (k : Int))))
theorem Cut.len {l : List Nat} {i : Nat} {t : List Nat} (h : Cut l i t) : i + t.length = l.length := by
 have := congrArg List.length h.1
 rw [List.length_drop] at this
 have := h.2.1
 omega
inductive Op : List S81 → Int → Int → Prop where
 | star : Op [sg 42] 0 (-1)
 | plus : Op [sg 43] 1 (-1)
 | opt : Op [sg 63] 0 1
 | least (a : Nat) (h : a ≤ 9) : Op [sg 123, sg (48 + a), sg 44, sg 125] a (-1)
 | both (a b : Nat) (h : a ≤ 9) (g : b ≤ 9) : Op [sg 123, sg (48 + a), sg 44, sg (48 + b), sg 125] a b
def rowP (k : Int) : List P24 → P24
 | [p] => p
 | ps => P24.con (⟨k, [], ps, 0, 0⟩ : S24)
inductive Sh : Nat → List S81 → List P24 → Prop where
 | chr (c : Nat) : Sh 0 [pl c] [P24.con (⟨2, [(c : Int)], [], 0, 0⟩ : S24)]
 | emp : Sh 0 [sg 40, sg 41] [P24.con (⟨1, [], [], 0, 0⟩ : S24)]
 | set (l : List Nat) (h : l ≠ []) : Sh 0 (sg 91 :: (l.map pl ++ [sg 93])) [P24.con (⟨2, compactI (sortI (castL l)), [], 0, 0⟩ : S24)]
 | par {e : List S81} {p : P24} (h : Sh 6 e [p]) : Sh 0 (sg 40 :: (e ++ [sg 41])) [p]
 | fac {e : List S81} {p : P24} (h : Sh 0 e [p]) : Sh 1 e [p]
 | rep {e o : List S81} {p : P24} {a b : Int} (h : Sh 1 e [p]) (ho : Op o a b) : Sh 1 (e ++ o) [P24.con (⟨5, [], [p], a, b⟩ : S24)]
 | row1 {e : List S81} {p : P24} (h : Sh 1 e [p]) : Sh 2 e [p]
 | rows {e e' : List S81} {ps : List P24} {p : P24} (h : Sh 2 e ps) (h' : Sh 1 e' [p]) : Sh 2 (e ++ e') (ps ++ [p])
 | seq {e : List S81} {ps : List P24} (h : Sh 2 e ps) : Sh 3 e [rowP 3 ps]
 | one {e : List S81} {p : P24} (h : Sh 3 e [p]) : Sh 4 e [p]
 | both {e e' : List S81} {p q : P24} (six : Bool) (h : Sh 4 e [p]) (h' : Sh 3 e' [q]) : Sh 4 (e ++ sg (if six then 38 else 45) :: e') [P24.con (⟨if six then 6 else 7, [], [p, q], 0, 0⟩ : S24)]
 | alt1 {e : List S81} {p : P24} (h : Sh 4 e [p]) : Sh 5 e [p]
 | alts {e e' : List S81} {ps : List P24} {p : P24} (h : Sh 5 e ps) (h' : Sh 4 e' [p]) : Sh 5 (e ++ sg 124 :: e') (ps ++ [p])
 | ei {e : List S81} {ps : List P24} (h : Sh 5 e ps) : Sh 6 e [rowP 4 ps]
abbrev oA (D : Nat) (need was : Bool) : AS := ⟨.out, D, need, was⟩
def Rd (r : Option ((S24 × Bool) × S58)) (l : List Nat) (i : Nat) (t : List Nat) (s s' : AS) (n : Nat) (stop : List Nat → Prop) : Prop :=
 (∃ (p : P24) (e : List S81) (k : Nat) (t' : List Nat), r = some ((p.vw, true), st l k) ∧ i < k ∧ Cut l k t' ∧ itA s t = preA e (itA s' t') ∧ Sh n e [p] ∧ stop t') ∨
 (∃ (p : S24) (k : Nat) (t' : List Nat), r = some ((p, false), st l k) ∧ Cut l k t' ∧ itA s t = .inr t')
theorem itA_stuck {s : AS} {t : List Nat} (h1 : t = [] → ¬ (s.md = .out ∧ s.need = false ∧ s.pile = 0)) (h2 : ∀ c r, t = c :: r → stepA s c = none) : itA s t = .inr t := by
 cases t with
 | nil => unfold itA; rw [if_neg (h1 rfl)]
 | cons c r => exact itA_none (h2 c r rfl)
def AS.set (s : AS) : Bool := match s.md with
 | .set _ => true
 | _ => false
def AS.after (s : AS) : AS := match s.md with
 | .set _ => ⟨.set true, s.pile, s.need, false⟩
 | _ => ⟨.out, s.pile, false, false⟩
theorem step92 (s : AS) (hs : mainM s.md = true) : ∃ s1 : AS, stepA s 92 = some (s1, []) ∧ (∀ c, c ≠ 0 → stepA s1 c = some (s.after, [pl c])) ∧ stepA s1 0 = none ∧ s1.md ≠ .out := by
 obtain ⟨md, pile, need, was⟩ := s
 cases md with
 | out =>
  refine ⟨⟨.esc false, pile, need, false⟩, by simp [stepA], fun c hc => ?_, by simp [stepA], by simp⟩
  simp [stepA, hc, AS.after]
 | set e =>
  refine ⟨⟨.esc true, pile, need, false⟩, by simp [stepA], fun c hc => ?_, by simp [stepA], by simp⟩
  simp [stepA, hc, AS.after]
 | esc b => cases hs
 | br k => cases hs
theorem stepPl (s : AS) (hs : mainM s.md = true) {c : Nat} (h0 : c ≠ 0) (hc : specL.contains c = false) : stepA s c = some (s.after, [pl c]) := by
 have h92 : c ≠ 92 := by intro h; subst h; cases hc
 have hp : plC c = true := by unfold plC; rw [hc]; simp [h0]
 obtain ⟨md, pile, need, was⟩ := s
 cases md with
 | out => simp [stepA, h92, hp, AS.after]
 | set e => simp [stepA, h92, hp, AS.after]
 | esc b => cases hs
 | br k => cases hs
theorem step0 (s : AS) (hs : mainM s.md = true) : stepA s 0 = none := by
 obtain ⟨md, pile, need, was⟩ := s
 cases md with
 | out => simp [stepA, plC]
 | set e => simp [stepA, plC]
 | esc b => cases hs
 | br k => cases hs
theorem f81_pt (m : Nat) {l : List Nat} {k p : Nat} {r : List Nat} (i : Nat) (hk : Cut l k (p :: r)) : f81_j1 m (st l i) (k : Int) = some (if p = 0 then ((0, false), st l k) else (((p : Int), true), st l (k + 1))) := by
 have hw := hk.w
 have hl := hk.lt
 have h4 := hk.2.2
 unfold f81_j1
 show (bnd (idx (castL l) (k : Int)) fun v59 => _) = _
 rw [hk.idx, bnd_some']
 by_cases h0 : p = 0
 ·subst h0
  rw [if_pos rfl]
  rfl
 ·rw [if_neg h0, show ((p : Int) == 0) = false by simp; omega, cnd_false, hw, show w64 (((k + 1 : Nat) : Int) - 1) = (k : Int) by rw [w64_id ⟨by omega, by omega⟩]; omega]
  show (bnd (idx (castL l) (k : Int)) fun v60 => _) = _
  rw [hk.idx]
  rfl
theorem letter_rd (m : Nat) {l : List Nat} {i : Nat} {t : List Nat} (h : Cut l i t) (s : AS) (hs : mainM s.md = true) (hn : t = [] → itA s [] = .inr []) (hb : ∀ c r, t = c :: r → specL.contains c = true → c ≠ 92 → stepA s c = none) :
  (∃ (c k : Nat) (t' : List Nat), f81 m (st l i) = some (((c : Int), true), st l k) ∧ i < k ∧ Cut l k t' ∧ itA s t = preA [pl c] (itA s.after t')) ∨
  (∃ (k : Nat) (t' : List Nat), f81 m (st l i) = some ((0, false), st l k) ∧ Cut l k t' ∧ itA s t = .inr t') := by
 unfold f81
 rw [show (92 : Int) = ((92 : Nat) : Int) from rfl, is_eq m h 92, bnd_some']
 cases t with
 | nil =>
  refine .inr ⟨i, [], ?_, h, hn rfl⟩
  show cnd false _ _ = _
  rw [cnd_false]
  show (bnd (cnd ((i : Int) == ((castL l).length : Int)) _ _) _) = _
  rw [castL_len, show ((i : Int) == (l.length : Int)) = true by have := h.nil; simp; omega, cnd_true, bnd_some']
  rfl
 | cons c r =>
  by_cases h92 : c = 92
  ·subst h92
   obtain ⟨s1, e1, e2, e3, e4⟩ := step92 s hs
   rw [show ((92 :: r : List Nat).head? == some 92) = true from by simp, cnd_true]
   show _ ∨ _
   have hn1 := h.next
   have hw := h.w
   cases r with
   | nil =>
    refine .inr ⟨i + 1, [], ?_, hn1, ?_⟩
    ·show cnd (w64 ((i : Int) + 1) == ((castL l).length : Int)) _ _ = _
     rw [hw, castL_len, show (((i + 1 : Nat) : Int) == (l.length : Int)) = true by have := hn1.nil; simp; omega, cnd_true]
     show some ((0, false), (⟨castL l, w64 ((i : Int) + 1)⟩ : S58)) = _
     rw [hw]; rfl
    ·rw [itA_some e1, preA_nil]
     unfold itA
     rw [if_neg (by intro g; exact e4 g.1)]
   | cons c r =>
    have hgo : cnd ((w64 ((st l i).fAt + 1)) == ((st l i).fL.length : Int)) (some (((0 : Int), false), (⟨(st l i).fL, w64 ((st l i).fAt + 1)⟩ : S58))) (f81_j1 m (st l i) (w64 ((st l i).fAt + 1))) = some (if c = 0 then ((0, false), st l (i + 1)) else (((c : Int), true), st l (i + 1 + 1))) := by
     show cnd (w64 ((i : Int) + 1) == ((castL l).length : Int)) _ (f81_j1 m (st l i) (w64 ((i : Int) + 1))) = _
     rw [hw, castL_len, show (((i + 1 : Nat) : Int) == (l.length : Int)) = false by have := hn1.lt; simp; omega, cnd_false]
     exact f81_pt m i hn1
    by_cases h0 : c = 0
    ·subst h0
     refine .inr ⟨i + 1, 0 :: r, ?_, hn1, ?_⟩
     ·rw [hgo, if_pos rfl]
     ·rw [itA_some e1, preA_nil, itA_none e3]
    ·refine .inl ⟨c, i + 1 + 1, r, ?_, by omega, hn1.next, ?_⟩
     ·rw [hgo, if_neg h0]
     ·rw [itA_some e1, preA_nil, itA_some (e2 c h0)]
  ·rw [show ((c :: r : List Nat).head? == some 92) = false by simp [h92], cnd_false]
   show _ ∨ _
   have hin : (cnd (decide ((c : Int) < 128)) (bnd (idx (castL l) (i : Int)) fun v95 => bnd (f56 m ((⟨#[40, 41, 91, 93, 124, 38, 45, 42, 43, 63, 123, 125, 44, 92]⟩ : ByteArray)) (IntKind.u8.wrap v95)) fun v96 => some (decide (v96 ≥ 0))) (some false)) = some (specL.contains c) := by
    by_cases hb : c < 128
    ·rw [decide_eq_true (by omega : (c : Int) < 128), cnd_true, h.idx, bnd_some']
     unfold f56
     rw [bnd_some', ix_spec c hb]
    ·rw [decide_eq_false (by omega : ¬ (c : Int) < 128), cnd_false, spec_big c hb]
   have hgo : (bnd (cnd ((st l i).fAt == ((st l i).fL.length : Int)) (some true) (bnd (idx (st l i).fL (st l i).fAt) fun v92 => cnd (decide (v92 < 128)) (bnd (idx (st l i).fL (st l i).fAt) fun v95 => bnd (f56 m ((⟨#[40, 41, 91, 93, 124, 38, 45, 42, 43, 63, 123, 125, 44, 92]⟩ : ByteArray)) (IntKind.u8.wrap v95)) fun v96 => some (decide (v96 ≥ 0))) (some false))) fun v90 => f81_r2 m (st l i) v90) =
     f81_r2 m (st l i) (specL.contains c) := by
    show (bnd (cnd ((i : Int) == ((castL l).length : Int)) _ (bnd (idx (castL l) (i : Int)) _)) _) = _
    rw [castL_len, show ((i : Int) == (l.length : Int)) = false by have := h.lt; simp; omega, cnd_false, h.idx, bnd_some']
    rw [show (st l i).fL = castL l from rfl, show (st l i).fAt = (i : Int) from rfl, hin, bnd_some']
   by_cases hc : specL.contains c = true
   ·refine .inr ⟨i, c :: r, ?_, h, itA_none (hb c r rfl hc h92)⟩
    rw [hgo, hc]
    rfl
   ·have hc : specL.contains c = false := by simpa using hc
    have hf : f81_r2 m (st l i) false = some (if c = 0 then ((0, false), st l i) else (((c : Int), true), st l (i + 1))) := by
     unfold f81_r2
     rw [cnd_false]
     exact f81_pt m i h
    by_cases h0 : c = 0
    ·subst h0
     refine .inr ⟨i, 0 :: r, ?_, h, itA_none (step0 s hs)⟩
     rw [hgo, hc, hf, if_pos rfl]
    ·refine .inl ⟨c, i + 1, r, ?_, by omega, h.next, ?_⟩
     ·rw [hgo, hc, hf, if_neg h0]
     ·rw [itA_some (stepPl s hs h0 hc)]
theorem castL_snoc (a : List Nat) (c : Nat) : castL (a ++ [c]) = castL a ++ [(c : Int)] := by simp [castL]
theorem head_ne {t : List Nat} {c : Nat} (h : (t.head? == some c) = false) : ∀ x r, t = x :: r → x ≠ c := by
 intro x r e g
 subst e g
 simp at h
abbrev sS (e : Bool) (D : Nat) (need : Bool) : AS := ⟨.set e, D, need, false⟩
theorem sS_end (e : Bool) (D : Nat) (need : Bool) : itA (sS e D need) [] = .inr [] := by
 unfold itA
 rw [if_neg (by intro g; cases g.1)]
theorem set_rd (m : Nat) (K : Rec28) (l : List Nat) (D : Nat) (need : Bool) : ∀ (M i : Nat) (acc t : List Nat), Cut l i t → t.length < M → acc.length ≤ i →
  (∃ (xs : List Nat) (k : Nat) (t' : List Nat), acc.length + xs.length ≤ k ∧ iter (fun (y : (List Int) × (List Int) × Int) => f74_B2 m K y.1 y.2.1 y.2.2) M (castL acc, castL l, (i : Int)) = some (.inr (castL (acc ++ xs), castL l, (k : Int))) ∧ i ≤ k ∧ Cut l k (93 :: t') ∧
   itA (sS (!acc.isEmpty) D need) t = preA (xs.map pl) (itA (sS (!(acc ++ xs).isEmpty) D need) (93 :: t'))) ∨
  (∃ (p : S24) (k : Nat) (t' : List Nat), iter (fun (y : (List Int) × (List Int) × Int) => f74_B2 m K y.1 y.2.1 y.2.2) M (castL acc, castL l, (i : Int)) = some (.inl ((p, false), st l k)) ∧ Cut l k t' ∧ itA (sS (!acc.isEmpty) D need) t = .inr t')
 | 0, _, _, _, _, h, _ => by omega
 | M + 1, i, acc, t, h, hM, ha => by
  have hB : f74_B2 m K (castL acc) (castL l) (i : Int) = bnd (f46 m (st l i) 93) fun v35 => cnd (!v35) (bnd (f81 m (st l i)) fun v36 => cnd (!v36.1.2) (some (.ret ((((⟨0, [], [], 0, 0⟩ : S24), false), v36.2)))) (bnd (app 8 (castL acc) [v36.1.1]) fun v37 => some (.nxt (v37, v36.2.fL, v36.2.fAt)))) (some (.brk (castL acc, castL l, (i : Int)))) := rfl
  have he := is_eq m h 93
  simp only [Int.cast_ofNat_Int] at he
  cases h93 : (t.head? == some 93) with
  | true =>
   obtain ⟨r, rfl⟩ : ∃ r, t = 93 :: r := by
    cases t with
    | nil => simp at h93
    | cons x r => simp at h93; subst h93; exact ⟨r, rfl⟩
   refine .inl ⟨[], i, r, by simpa using ha, ?_, Nat.le_refl _, h, by rw [List.append_nil]; exact (preA_nil _).symm⟩
   unfold iter
   dsimp only
   rw [hB, he, h93, bnd_some']
   simp
  | false =>
   have hne := head_ne h93
   rcases letter_rd m h (sS (!acc.isEmpty) D need) rfl (fun _ => sS_end _ _ _) (fun c r e hc h92 => by
    have : c ≠ 93 := hne c r e
    have hp : plC c = false := by simp only [plC, hc, Bool.not_true, Bool.false_and]
    simp [stepA, h92, hp, this]) with ⟨c, k, t', e1, e2, e3, e4⟩ | ⟨k, t', e1, e2, e3⟩
   ·have e4 : itA (sS (!acc.isEmpty) D need) t = preA [pl c] (itA (sS true D need) t') := e4
    have hlen : t'.length < t.length := by
     have := e3.len; have := h.len; omega
    have hstep : f74_B2 m K (castL acc) (castL l) (i : Int) = some (.nxt (castL (acc ++ [c]), castL l, (k : Int))) := by
     rw [hB, he, h93, bnd_some']
     show (bnd (f81 m (st l i)) fun v36 => _) = _
     have hil := h.2.1; have hl4 := h.2.2
     rw [e1, bnd_some']
     show (bnd (app 8 (castL acc) [(c : Int)]) fun v37 => _) = _
     rw [app_some 8 (castL acc) _ (by simp [castL_len]; omega) (by simp [castL_len]; omega), bnd_some', castL_snoc]
     rfl
    have hne2 : (!(acc ++ [c]).isEmpty) = true := by simp
    have ih := set_rd m K l D need M k (acc ++ [c]) t' e3 (by omega) (by simp; omega)
    have hit : iter (fun (y : (List Int) × (List Int) × Int) => f74_B2 m K y.1 y.2.1 y.2.2) (M + 1) (castL acc, castL l, (i : Int)) = iter (fun (y : (List Int) × (List Int) × Int) => f74_B2 m K y.1 y.2.1 y.2.2) M (castL (acc ++ [c]), castL l, (k : Int)) := by
     conv => lhs; unfold iter
     dsimp only
     rw [hstep]
    rw [hit]
    rcases ih with ⟨xs, k2, t2, g0, g1, g2, g3, g4⟩ | ⟨p, k2, t2, g1, g2, g3⟩
    ·refine .inl ⟨c :: xs, k2, t2, by simp at g0 ⊢; omega, by rw [g1, List.append_assoc]; rfl, by omega, g3, ?_⟩
     rw [hne2] at g4
     rw [e4, g4, preA_app, show acc ++ c :: xs = acc ++ [c] ++ xs by simp]
     rfl
    ·refine .inr ⟨p, k2, t2, g1, g2, ?_⟩
     rw [hne2] at g3
     rw [e4, g3]; rfl
   ·refine .inr ⟨⟨0, [], [], 0, 0⟩, k, t', ?_, e2, e3⟩
    have hbb : f74_B2 m K (castL acc) (castL l) (i : Int) = some (.ret (((⟨0, [], [], 0, 0⟩ : S24), false), st l k)) := by
     rw [hB, he, h93, bnd_some']
     show (bnd (f81 m (st l i)) fun v36 => _) = _
     rw [e1, bnd_some']
     rfl
    unfold iter
    dsimp only
    rw [hbb]
def StopX (t : List Nat) : Prop := ∀ x, t.head? = some x → x = 41 ∨ x = 93 ∨ x = 125 ∨ x = 44
theorem stuckX {D : Nat} {t : List Nat} (h : StopX t) (h41 : ∀ x r, t = x :: r → x ≠ 41) (hD : t = [] → 0 < D) : itA (oA D false false) t = .inr t := by
 refine itA_stuck (fun e g => ?_) fun c r e => ?_
 ·have g2 : D = 0 := g.2.2
  have := hD e
  omega
 ·have := h41 c r e
  have := h c (by rw [e]; rfl)
  have hc : c = 93 ∨ c = 125 ∨ c = 44 := by omega
  rcases hc with rfl | rfl | rfl <;> rfl
theorem atom_rd (m : Nat) (hm : 100000 ≤ m) (K : Rec28) (D : Nat) (hD : D ≤ 80) (need w : Bool)
  (hE : D < 80 → ∀ (l : List Nat) (i : Nat) (t : List Nat) (w : Bool), Cut l i t → (w = true → t.head? ≠ some 41) → Rd (K.r28 (st l i) ((D + 2 : Nat) : Int)) l i t (oA (D + 1) true w) (oA (D + 1) false false) 6 StopX)
  {l : List Nat} {i : Nat} {t : List Nat} (h : Cut l i t) (hg : goB t = true) : Rd (b74 m K (st l i) ((D + 1 : Nat) : Int)) l i t (oA D need w) (oA D false false) 0 (fun _ => True) := by
 cases t with
 | nil => cases hg
 | cons x r =>
 have hw := h.w
 have hn := h.next
 have hil := h.2.1; have hl4 := h.2.2
 have is40 := is_eq m h 40
 have is91 := is_eq m h 91
 simp only [Int.cast_ofNat_Int] at is40 is91
 unfold b74
 rw [is40, bnd_some']
 by_cases h40 : x = 40
 ·subst h40
  rw [show ((40 :: r : List Nat).head? == some 40) = true by simp, cnd_true]
  by_cases h80 : D = 80
  ·subst h80
   rw [decide_eq_true (by decide), cnd_true]
   exact .inr ⟨_, i, 40 :: r, rfl, h, itA_none (by simp [stepA, plC, specL])⟩
  ·rw [decide_eq_false (by omega), cnd_false]
   have e1 : w64 ((st l i).fAt + 1) = ((i + 1 : Nat) : Int) := hw
   rw [e1]
   show Rd (bnd (f46 m (⟨castL l, ((i + 1 : Nat) : Int)⟩ : S58) 41) fun v2 => _) _ _ _ _ _ _ _
   have is41 := is_eq m hn 41
   simp only [Int.cast_ofNat_Int] at is41
   have is41 : f46 m (⟨castL l, ((i + 1 : Nat) : Int)⟩ : S58) 41 = some (r.head? == some 41) := is41
   rw [is41, bnd_some']
   have s40 : stepA (oA D need w) 40 = some (oA (D + 1) true true, [sg 40]) := by
    simp [stepA, plC, specL, h80]
   cases h41 : (r.head? == some 41) with
   | true =>
    obtain ⟨r', rfl⟩ : ∃ r', r = 41 :: r' := by
     cases r with
     | nil => simp at h41
     | cons y r' => simp at h41; subst h41; exact ⟨r', rfl⟩
    rw [cnd_true]
    refine .inl ⟨P24.con (⟨1, [], [], 0, 0⟩ : S24), [sg 40, sg 41], i + 1 + 1, r', ?_, by omega, hn.next, ?_, .emp, trivial⟩
    ·rw [P24.vw_con]
     show some (((⟨1, [], [], 0, 0⟩ : S24), true), (⟨castL l, w64 (((i + 1 : Nat) : Int) + 1)⟩ : S58)) = _
     rw [hn.w]
     rfl
    ·rw [itA_some s40, itA_some (s := oA (D + 1) true true) (c := 41) (s' := oA D false false) (e := [sg 41]) (by simp [stepA, plC, specL]), preA_app]
     rfl
   | false =>
    rw [cnd_false]
    have hr := hE (by omega) l (i + 1) r true hn (fun _ => by intro g; rw [g] at h41; simp at h41)
    have hd : w64 (((D + 1 : Nat) : Int) + 1) = ((D + 2 : Nat) : Int) := by rw [w64_id ⟨by omega, by omega⟩]; omega
    rw [hd]
    show Rd (bnd (K.r28 (st l (i + 1)) ((D + 2 : Nat) : Int)) fun v3 => _) _ _ _ _ _ _ _
    rcases hr with ⟨p, e, k, t', g1, g2, g3, g4, g5, g6⟩ | ⟨p, k, t', g1, g2, g3⟩
    ·rw [g1, bnd_some']
     have is2 := is_eq m g3 41
     simp only [Int.cast_ofNat_Int] at is2
     show Rd (bnd (cnd false _ (bnd (f46 m (st l k) 41) fun v12 => some (!v12))) fun v10 => _) _ _ _ _ _ _ _
     rw [cnd_false, is2, bnd_some', bnd_some']
     unfold f74_r1
     cases h2 : (t'.head? == some 41) with
     | true =>
      obtain ⟨r', rfl⟩ : ∃ r', t' = 41 :: r' := by
       cases t' with
       | nil => simp at h2
       | cons y r' => simp at h2; subst h2; exact ⟨r', rfl⟩
      refine .inl ⟨p, sg 40 :: (e ++ [sg 41]), k + 1, r', ?_, by omega, g3.next, ?_, .par g5, trivial⟩
      ·show some ((p.vw, true), (⟨castL l, w64 ((k : Int) + 1)⟩ : S58)) = _
       rw [g3.w]; rfl
      ·rw [itA_some s40, g4, itA_some (s := oA (D + 1) false false) (c := 41) (s' := oA D false false) (e := [sg 41]) (by simp [stepA, plC, specL]), preA_app, preA_app]
       rfl
     | false =>
      refine .inr ⟨p.vw, k, t', rfl, g3, ?_⟩
      rw [itA_some s40, g4, stuckX g6 (head_ne h2) (fun _ => by omega)]
      rfl
    ·rw [g1, bnd_some']
     refine .inr ⟨p, k, t', rfl, g2, ?_⟩
     rw [itA_some s40, g3]; rfl
 ·rw [show ((x :: r : List Nat).head? == some 40) = false by simp [h40], cnd_false, is91, bnd_some']
  by_cases h91 : x = 91
  ·subst h91
   rw [show ((91 :: r : List Nat).head? == some 91) = true by simp, cnd_true]
   have s91 : stepA (oA D need w) 91 = some (sS false D need, [sg 91]) := by simp [stepA, plC, specL]
   show Rd (brk (iter _ m ([], castL l, w64 ((i : Int) + 1))) _ _) _ _ _ _ _ _ _
   rw [hw]
   have hlen := h.len
   rw [List.length_cons] at hlen
   rcases set_rd m K l D need m (i + 1) [] r hn (by omega) (Nat.zero_le _) with ⟨xs, k, t', g0, g1, g2, g3, g4⟩ | ⟨p, k, t', g1, g2, g3⟩
   ·have g1 : iter (fun (y : (List Int) × (List Int) × Int) => f74_B2 m K y.1 y.2.1 y.2.2) m ([], castL l, ((i + 1 : Nat) : Int)) = some (.inr (castL xs, castL l, (k : Int))) := g1
    have g4 : itA (sS false D need) r = preA (xs.map pl) (itA (sS (!xs.isEmpty) D need) (93 :: t')) := g4
    rw [g1, brk_inr]
    show Rd (cnd (((castL xs).length : Int) == 0) _ _) _ _ _ _ _ _ _
    rw [castL_len]
    cases xs with
    | nil =>
     rw [show ((([] : List Nat).length : Int) == 0) = true from rfl, cnd_true]
     refine .inr ⟨_, k, 93 :: t', rfl, g3, ?_⟩
     rw [itA_some s91, g4, itA_none (by simp [stepA, plC, specL])]
     rfl
    | cons y ys =>
     have g4 : itA (sS false D need) r = preA ((y :: ys).map pl) (itA (sS true D need) (93 :: t')) := g4
     rw [show (((y :: ys).length : Int) == 0) = false from beq_eq_false_iff_ne.2 (by rw [List.length_cons]; omega), cnd_false]
     have hxl : (castL (y :: ys)).length < 4611686018427387904 := by
      have := g3.2.1
      rw [castL_len]
      simp only [List.length_nil, Nat.zero_add] at g0
      have := g3.2.2
      omega
     unfold srtI
     rw [if_pos hxl, bnd_some']
     refine .inl ⟨P24.con (⟨2, compactI (sortI (castL (y :: ys))), [], 0, 0⟩ : S24), sg 91 :: ((y :: ys).map pl ++ [sg 93]), k + 1, t', ?_, by omega, g3.next, ?_, .set _ (by simp), trivial⟩
     ·rw [P24.vw_con]
      show some (_, (⟨castL l, w64 ((k : Int) + 1)⟩ : S58)) = _
      rw [g3.w]; rfl
     ·rw [itA_some s91, g4, itA_some (s := sS true D need) (c := 93) (s' := oA D false false) (e := [sg 93]) (by simp [stepA, plC, specL]), preA_app, preA_app]
      rfl
   ·have g1 : iter (fun (y : (List Int) × (List Int) × Int) => f74_B2 m K y.1 y.2.1 y.2.2) m ([], castL l, ((i + 1 : Nat) : Int)) = some (.inl ((p, false), st l k)) := g1
    rw [g1, brk_inl]
    refine .inr ⟨p, k, t', rfl, g2, ?_⟩
    have g3 : itA (sS false D need) r = .inr t' := g3
    rw [itA_some s91, g3]; rfl
  ·rw [show ((x :: r : List Nat).head? == some 91) = false by simp [h91], cnd_false]
   have hx : stopL.contains x = false := by simpa [goB] using hg
   rcases letter_rd m h (oA D need w) rfl (fun e => by cases e) (fun c r' e hc h92 => by
    cases e
    exfalso
    have := (spec_mem x).1 hc
    simp only [stopL, List.contains_eq_any_beq, List.any_cons, List.any_nil, Bool.or_false, Bool.or_eq_false_iff, beq_eq_false_iff_ne, ne_eq] at hx
    omega) with ⟨c, k, t', e1, e2, e3, e4⟩ | ⟨k, t', e1, e2, e3⟩
   ·rw [e1, bnd_some']
    exact .inl ⟨P24.con (⟨2, [(c : Int)], [], 0, 0⟩ : S24), [pl c], k, t', by rw [P24.vw_con], e2, e3, e4, .chr c, trivial⟩
   ·rw [e1, bnd_some']
    exact .inr ⟨_, k, t', rfl, e2, e3⟩
theorem digit_bad (m : Nat) {l : List Nat} {i : Nat} {t : List Nat} (h : Cut l i t) (hb : ∀ c r, t = c :: r → ¬ (48 ≤ c ∧ c ≤ 57)) : f75 m (st l i) = some ((0, false), st l i) := by
 unfold f75
 show (bnd (cnd ((i : Int) == ((castL l).length : Int)) _ (bnd (idx (castL l) (i : Int)) _)) _) = _
 cases t with
 | nil =>
  rw [castL_len, show ((i : Int) == (l.length : Int)) = true by have := h.nil; simp; omega, cnd_true, bnd_some']
  rfl
 | cons c r =>
  have hl := h.lt
  have hc := hb c r rfl
  rw [castL_len, show ((i : Int) == (l.length : Int)) = false by simp; omega, cnd_false, h.idx, bnd_some', bnd_some']
  unfold f75_r2
  by_cases h48 : c < 48
  ·rw [decide_eq_true (by omega : (c : Int) < 48), cnd_true, bnd_some']
   rfl
  ·rw [decide_eq_false (by omega : ¬ (c : Int) < 48), cnd_false]
   show (bnd (bnd (idx (castL l) (i : Int)) _) _) = _
   rw [h.idx, bnd_some', decide_eq_true (by omega : (c : Int) > 57), bnd_some']
   rfl
theorem digit_ok (m : Nat) {l : List Nat} {i c : Nat} {r : List Nat} (h : Cut l i (c :: r)) (hb : 48 ≤ c ∧ c ≤ 57) : f75 m (st l i) = some (((c : Int) - 48, true), st l (i + 1)) := by
 have := digit_eq m (k := c - 48) (by rw [show 48 + (c - 48) = c by omega]; exact h) (by omega)
 rw [this, show ((c - 48 : Nat) : Int) = (c : Int) - 48 by omega]
def BrR (l : List Nat) (o : Option (Stp ((S24 × Bool) × S58) (Bool × (List Int) × Int × Int × (List Int) × (List P24) × Int × Int))) (q : S24) (i : Nat) (t : List Nat) (D : Nat) : Prop :=
 (∃ (e : List S81) (a b : Int) (k : Nat) (t' : List Nat), o = some (.nxt (lp true l k (⟨5, [], [P24.con q], a, b⟩ : S24))) ∧ i < k ∧ Cut l k t' ∧ Op e a b ∧ itA (oA D false false) t = preA e (itA (oA D false false) t')) ∨
 (∃ (p : S24) (k : Nat) (t' : List Nat), o = some (.ret ((p, false), st l k)) ∧ Cut l k t' ∧ itA (oA D false false) t = .inr t')
abbrev bA (k D : Nat) : AS := ⟨.br k, D, false, false⟩
theorem bA_no {k D : Nat} {t : List Nat} (h : ∀ c r, t = c :: r → stepA (bA k D) c = none) : itA (bA k D) t = .inr t := itA_stuck (fun e g => by cases g.1) h
theorem brace_rd (m : Nat) (K : Rec28) (D : Nat) {l : List Nat} {i : Nat} {r : List Nat} (q : S24) (h : Cut l i (123 :: r)) : BrR l (f67_r6 m K (castL l) (i : Int) q.fKind q.fLabels q.fSubs q.fLeast q.fMost true true) q i (123 :: r) D := by
 have s0 : stepA (oA D false false) 123 = some (bA 1 D, [sg 123]) := by simp [stepA, plC, specL]
 have k1 := h.next
 unfold f67_r6
 rw [cnd_true, h.idx, bnd_some']
 show BrR l (bnd (f75 m (⟨castL l, w64 ((i : Int) + 1)⟩ : S58)) fun v928 => _) q i _ D
 rw [h.w]
 have hq : (⟨q.fKind, q.fLabels, q.fSubs, q.fLeast, q.fMost⟩ : S24) = q := rfl
 by_cases c1 : ∃ c r1, r = c :: r1 ∧ 48 ≤ c ∧ c ≤ 57
 case neg =>
  have d1 : f75 m (⟨castL l, ((i + 1 : Nat) : Int)⟩ : S58) = some ((0, false), st l (i + 1)) := digit_bad m k1 fun c r1 e g => c1 ⟨c, r1, e, g⟩
  rw [d1, bnd_some']
  refine .inr ⟨q, i + 1, r, rfl, k1, ?_⟩
  rw [itA_some s0, bA_no fun c r1 e => by
   have : ¬ (48 ≤ c ∧ c ≤ 57) := fun g => c1 ⟨c, r1, e, g⟩
   simp [stepA, this]]
  rfl
 obtain ⟨a, r1, rfl, ha⟩ := c1
 have d1 : f75 m (⟨castL l, ((i + 1 : Nat) : Int)⟩ : S58) = some (((a : Int) - 48, true), st l (i + 1 + 1)) := digit_ok m k1 ha
 have s1 : stepA (bA 1 D) a = some (bA 2 D, [sg a]) := by simp [stepA, ha]
 have k2 := k1.next
 rw [d1, bnd_some']
 show BrR l (bnd (f46 m (st l (i + 1 + 1)) 44) fun v929 => _) q i _ D
 have is44 := is_eq m k2 44
 simp only [Int.cast_ofNat_Int] at is44
 rw [is44, bnd_some']
 cases c2 : (r1.head? == some 44) with
 | false =>
  refine .inr ⟨q, i + 1 + 1, r1, rfl, k2, ?_⟩
  rw [itA_some s0, itA_some s1, bA_no fun c r2 e => by
   have := head_ne c2 c r2 e
   simp [stepA, this]]
  rfl
 | true =>
  obtain ⟨r2, rfl⟩ : ∃ r2, r1 = 44 :: r2 := by
   cases r1 with
   | nil => simp at c2
   | cons y r' => simp at c2; subst c2; exact ⟨r', rfl⟩
  have s2 : stepA (bA 2 D) 44 = some (bA 3 D, [sg 44]) := by simp [stepA]
  have k3 := k2.next
  show BrR l (bnd (f46 m (⟨castL l, w64 (((i + 1 + 1 : Nat) : Int) + 1)⟩ : S58) 125) fun v930 => _) q i _ D
  rw [k2.w]
  have is125 := is_eq m k3 125
  simp only [Int.cast_ofNat_Int] at is125
  have is125' : f46 m (⟨castL l, ((i + 1 + 1 + 1 : Nat) : Int)⟩ : S58) 125 = some (r2.head? == some 125) := is125
  rw [is125', bnd_some']
  -- the end
  have fin : ∀ (k : Nat) (t' : List Nat) (b : Int) (ok : Bool) (hk : Cut l k t'), f67_j5 m K q.fKind q.fLabels q.fSubs q.fLeast q.fMost (((a : Int) - 48, true), st l (i + 1 + 1)) true (castL l) (k : Int) b =
    some (if t'.head? == some 125 then .nxt (lp true l (k + 1) (⟨5, [], [P24.con q], (a : Int) - 48, b⟩ : S24)) else .ret ((q, false), st l k)) := by
   intro k t' b ok hk
   have is := is_eq m hk 125
   simp only [Int.cast_ofNat_Int] at is
   have is' : f46 m (⟨castL l, (k : Int)⟩ : S58) 125 = some (t'.head? == some 125) := is
   unfold f67_j5
   rw [is', bnd_some']
   cases hh : (t'.head? == some 125) with
   | false => rfl
   | true =>
    obtain ⟨r', rfl⟩ : ∃ r', t' = 125 :: r' := by
     cases t' with
     | nil => simp at hh
     | cons y r' => simp at hh; subst hh; exact ⟨r', rfl⟩
    show f67_j4 m K _ _ _ _ _ true (castL l) (w64 ((k : Int) + 1)) ((a : Int) - 48) b = _
    rw [hk.w]
    rfl
  obtain ⟨a', rfl⟩ : ∃ a', a = 48 + a' := ⟨a - 48, by omega⟩
  have ea : ((48 + a' : Nat) : Int) - 48 = (a' : Int) := by omega
  cases c3 : (r2.head? == some 125) with
  | true =>
   obtain ⟨r3, rfl⟩ : ∃ r3, r2 = 125 :: r3 := by
    cases r2 with
    | nil => simp at c3
    | cons y r' => simp at c3; subst c3; exact ⟨r', rfl⟩
   have s3 : stepA (bA 3 D) 125 = some (oA D false false, [sg 125]) := by simp [stepA]
   show BrR l (f67_j5 m K q.fKind q.fLabels q.fSubs q.fLeast q.fMost (((((48 + a' : Nat) : Int) - 48, true), st l (i + 1 + 1))) true (castL l) (w64 (((i + 1 + 1 : Nat) : Int) + 1)) (-1)) q i _ D
   rw [k2.w, fin _ _ (-1) true k3, c3, if_pos rfl, ea]
   refine .inl ⟨_, _, _, i + 1 + 1 + 1 + 1, r3, rfl, by omega, k3.next, .least a' (by omega), ?_⟩
   rw [itA_some s0, itA_some s1, itA_some s2, itA_some s3, preA_app, preA_app, preA_app]
   rfl
  | false =>
   show BrR l (bnd (f75 m (⟨castL l, w64 (((i + 1 + 1 : Nat) : Int) + 1)⟩ : S58)) fun v959 => _) q i _ D
   rw [k2.w]
   by_cases c4 : ∃ c r3, r2 = c :: r3 ∧ 48 ≤ c ∧ c ≤ 57
   case neg =>
    have d2 : f75 m (⟨castL l, ((i + 1 + 1 + 1 : Nat) : Int)⟩ : S58) = some ((0, false), st l (i + 1 + 1 + 1)) := digit_bad m k3 fun c r1 e g => c4 ⟨c, r1, e, g⟩
    rw [d2, bnd_some']
    refine .inr ⟨q, i + 1 + 1 + 1, r2, rfl, k3, ?_⟩
    rw [itA_some s0, itA_some s1, itA_some s2, bA_no fun c r1 e => by
     have g1 : ¬ (48 ≤ c ∧ c ≤ 57) := fun g => c4 ⟨c, r1, e, g⟩
     have g2 := head_ne c3 c r1 e
     simp [stepA, g1, g2]]
    rfl
   obtain ⟨b, r3, rfl, hb⟩ := c4
   obtain ⟨b', rfl⟩ : ∃ b', b = 48 + b' := ⟨b - 48, by omega⟩
   have d2 : f75 m (⟨castL l, ((i + 1 + 1 + 1 : Nat) : Int)⟩ : S58) = some ((((48 + b' : Nat) : Int) - 48, true), st l (i + 1 + 1 + 1 + 1)) := digit_ok m k3 hb
   have s3 : stepA (bA 3 D) (48 + b') = some (bA 4 D, [sg (48 + b')]) := by simp [stepA, hb]
   have k4 := k3.next
   have eb : ((48 + b' : Nat) : Int) - 48 = (b' : Int) := by omega
   rw [d2, bnd_some']
   show BrR l (f67_j5 m K q.fKind q.fLabels q.fSubs q.fLeast q.fMost (((((48 + a' : Nat) : Int) - 48, true), st l (i + 1 + 1))) true (castL l) ((i + 1 + 1 + 1 + 1 : Nat) : Int) (((48 + b' : Nat) : Int) - 48)) q i _ D
   rw [fin _ _ _ true k4, ea, eb]
   cases c5 : (r3.head? == some 125) with
   | false =>
    rw [if_neg (by simp)]
    refine .inr ⟨q, i + 1 + 1 + 1 + 1, r3, rfl, k4, ?_⟩
    rw [itA_some s0, itA_some s1, itA_some s2, itA_some s3, bA_no fun c r1 e => by
     have g2 := head_ne c5 c r1 e
     simp [stepA, g2]]
    rfl
   | true =>
    obtain ⟨r4, rfl⟩ : ∃ r4, r3 = 125 :: r4 := by
     cases r3 with
     | nil => simp at c5
     | cons y r' => simp at c5; subst c5; exact ⟨r', rfl⟩
    have s4 : stepA (bA 4 D) 125 = some (oA D false false, [sg 125]) := by simp [stepA]
    rw [if_pos rfl]
    refine .inl ⟨_, _, _, i + 1 + 1 + 1 + 1 + 1, r4, rfl, by omega, k4.next, .both a' b' (by omega) (by omega), ?_⟩
    rw [itA_some s0, itA_some s1, itA_some s2, itA_some s3, itA_some s4, preA_app, preA_app, preA_app, preA_app]
    rfl
theorem op_turn (m : Nat) (K : Rec28) (D : Nat) {l : List Nat} {i : Nat} {t : List Nat} (q : S24) (h : Cut l i t) (hno : ¬ NoOp t) : BrR l (B67 m K (lp true l i q)) q i t D := by
 have hh : ∃ x r, t = x :: r ∧ (x = 42 ∨ x = 43 ∨ x = 63 ∨ x = 123) := by
  cases t with
  | nil => exact absurd (fun x hx => by simp at hx) hno
  | cons x r =>
   refine ⟨x, r, rfl, ?_⟩
   apply Classical.byContradiction
   intro g
   refine hno fun y hy => ?_
   have : x = y := by simpa using hy
   subst this
   omega
 obtain ⟨x, r, rfl, hx⟩ := hh
 have hst : ∀ c : Nat, (c = 42 ∨ c = 43 ∨ c = 63) → stepA (oA D false false) c = some (oA D false false, [sg c]) := by
  rintro c (rfl | rfl | rfl) <;> simp [stepA, plC, specL]
 have key : ∀ (c : Nat) (a b : Int), repT a b = [c] → (c = 42 ∨ c = 43 ∨ c = 63) → 0 ≤ a ∧ a ≤ 9 → -1 ≤ b ∧ b ≤ 9 → Cut l i (c :: r) → Op [sg c] a b → BrR l (B67 m K (lp true l i q)) q i (c :: r) D := by
  intro c a b hr hc ha hb hcut hop
  have h2 := rep_key m K (rest := r) q a b ha hb (by rw [hr]; exact hcut)
  rw [hr] at h2
  refine .inl ⟨[sg c], a, b, i + 1, r, h2, by omega, hcut.next, hop, ?_⟩
  rw [itA_some (hst c hc)]
 rcases hx with rfl | rfl | rfl | rfl
 ·exact key 42 0 (-1) rfl (by omega) (by omega) (by omega) h .star
 ·exact key 43 1 (-1) rfl (by omega) (by omega) (by omega) h .plus
 ·exact key 63 0 1 rfl (by omega) (by omega) (by omega) h .opt
 ·show BrR l (f67_B7 m K true (castL l) (i : Int) q.fKind q.fLabels q.fSubs q.fLeast q.fMost) q i _ D
  unfold f67_B7
  have e1 := is_no m h 42 (by decide)
  have e2 := is_no m h 43 (by decide)
  have e3 := is_no m h 63 (by decide)
  have e4 := is_yes m h
  simp only [Int.cast_ofNat_Int] at e1 e2 e3 e4
  rw [cnd_true, e1, bnd_some', cnd_false, e2, bnd_some', cnd_false, e3, bnd_some', cnd_false, e4, bnd_some', bnd_some']
  exact brace_rd m K D q h
theorem fac_rd (m : Nat) (K : Rec28) (D : Nat) {l : List Nat} : ∀ (M i : Nat) (t : List Nat) (p : P24) (e0 : List S81), Cut l i t → t.length < M → Sh 1 e0 [p] →
  (∃ (p' : P24) (e : List S81) (k : Nat) (t' : List Nat), iter (B67 m K) M (lp true l i p.vw) = some (.inr (lp true l k p'.vw)) ∧ i ≤ k ∧ Cut l k t' ∧ itA (oA D false false) t = preA e (itA (oA D false false) t') ∧ Sh 1 (e0 ++ e) [p'] ∧ NoOp t') ∨
  (∃ (p' : S24) (k : Nat) (t' : List Nat), iter (B67 m K) M (lp true l i p.vw) = some (.inl ((p', false), st l k)) ∧ Cut l k t' ∧ itA (oA D false false) t = .inr t')
 | 0, _, _, _, _, _, h, _ => by omega
 | M + 1, i, t, p, e0, h, hM, hp => by
  by_cases hno : NoOp t
  ·exact .inl ⟨p, [], i, t, b67_end m K h hno p.vw M, Nat.le_refl _, h, (preA_nil _).symm, by rw [List.append_nil]; exact hp, hno⟩
  ·rcases op_turn m K D p.vw h hno with ⟨e, a, b, k, t', h1, h2, h3, h4, h5⟩ | ⟨p', k, t', h1, h2, h3⟩
   ·have hl : t'.length < t.length := by have := h.len; have := h3.len; omega
    rw [P24.con_vw] at h1
    have ih := fac_rd m K D M k t' (P24.con (⟨5, [], [p], a, b⟩ : S24)) (e0 ++ e) h3 (by omega) (.rep hp h4)
    rw [P24.vw_con] at ih
    have hit : iter (B67 m K) (M + 1) (lp true l i p.vw) = iter (B67 m K) M (lp true l k (⟨5, [], [p], a, b⟩ : S24)) := by
     conv => lhs; unfold iter
     rw [h1]
    rw [hit, h5]
    rcases ih with ⟨q, e', k2, t2, g1, g2, g3, g4, g5, g6⟩ | ⟨q, k2, t2, g1, g2, g3⟩
    ·exact .inl ⟨q, e ++ e', k2, t2, g1, by omega, g3, by rw [g4, preA_app], by rw [← List.append_assoc]; exact g5, g6⟩
    ·exact .inr ⟨q, k2, t2, g1, g2, by rw [g3]; rfl⟩
   ·refine .inr ⟨p', k, t', ?_, h2, h3⟩
    conv => lhs; unfold iter
    rw [h1]
theorem b67_no (m : Nat) (K : Rec28) (y : (List Int) × Int × Int × (List Int) × (List P24) × Int × Int) (M : Nat) : iter (B67 m K) (M + 1) (false, y) = some (.inr (false, y)) := by
 unfold iter
 rfl
theorem factor_rd (m : Nat) (hm : 100000 ≤ m) (K : Rec28) (D : Nat) (d : Int) (s : AS) {l : List Nat} {i : Nat} {t : List Nat} (h : Cut l i t) (hA : Rd (K.r74 (st l i) d) l i t s (oA D false false) 0 (fun _ => True)) :
  Rd (b67 m K (st l i) d) l i t s (oA D false false) 1 NoOp := by
 obtain ⟨M, rfl⟩ : ∃ M, m = M + 1 := ⟨m - 1, by omega⟩
 unfold b67
 rcases hA with ⟨p, e, k, t', g1, g2, g3, g4, g5, _⟩ | ⟨p, k, t', g1, g2, g3⟩
 ·rw [g1, bnd_some']
  show Rd (brk (iter (B67 (M + 1) K) (M + 1) (lp true l k p.vw)) _ _) _ _ _ _ _ _ _
  have := g3.len; have := g3.2.2
  rcases fac_rd (M + 1) K D (M + 1) k t' p e g3 (by omega) (.fac g5) with ⟨q, e', k2, t2, h1, h2, h3, h4, h5, h6⟩ | ⟨q, k2, t2, h1, h2, h3⟩
  ·rw [h1, brk_inr]
   exact .inl ⟨q, e ++ e', k2, t2, rfl, by omega, h3, by rw [g4, h4, preA_app], h5, h6⟩
  ·rw [h1, brk_inl]
   exact .inr ⟨q, k2, t2, rfl, h2, by rw [g4, h3]; rfl⟩
 ·rw [g1, bnd_some']
  show Rd (brk (iter (B67 (M + 1) K) (M + 1) (false, castL l, (k : Int), p.fKind, p.fLabels, p.fSubs, p.fLeast, p.fMost)) _ _) _ _ _ _ _ _ _
  rw [b67_no, brk_inr]
  exact .inr ⟨p, k, t', rfl, g2, g3⟩
theorem rowP_res (k : Int) (ps : List P24) (s : S58) (h : ps ≠ []) : cnd ((ps.length : Int) == 1) (bnd (idx ps 0) fun v => some ((v.vw, true), s)) (some (((⟨k, [], ps, 0, 0⟩ : S24), true), s)) = some (((rowP k ps).vw, true), s) := by
 match ps, h with
 | [p], _ => rfl
 | p :: q :: r, _ =>
  rw [show (((p :: q :: r).length : Int) == 1) = false from beq_eq_false_iff_ne.2 (by simp only [List.length_cons]; omega), cnd_false]
  show _ = some (((P24.con (⟨k, [], p :: q :: r, 0, 0⟩ : S24)).vw, true), s)
  rw [P24.vw_con]
def StopQ (t : List Nat) : Prop := ∀ x, t.head? = some x → x = 41 ∨ x = 93 ∨ x = 124 ∨ x = 38 ∨ x = 45 ∨ x = 125 ∨ x = 44
theorem StopQ.of {t : List Nat} (h1 : goB t = false) (h2 : NoOp t) : StopQ t := by
 intro x hx
 have := h2 x hx
 cases t with
 | nil => simp at hx
 | cons y r =>
  have e : y = x := by simpa using hx
  subst e
  have hc : stopL.contains y = true := by simpa [goB] using h1
  simp [stopL] at hc
  omega
noncomputable abbrev B61 (m : Nat) (K : Rec28) (d : Int) : (List P24) × (List Int) × Int → Option (Stp ((S24 × Bool) × S58) ((List P24) × (List Int) × Int)) := fun y => f61_B2 m K d y.1 y.2.1 y.2.2
theorem row_rd (m : Nat) (K : Rec28) (D : Nat) (d : Int) {l : List Nat} (hF : ∀ (i : Nat) (t : List Nat), Cut l i t → goB t = true → Rd (K.r67 (st l i) d) l i t (oA D false false) (oA D false false) 1 NoOp) :
  ∀ (M i : Nat) (t : List Nat) (acc : List P24) (e0 : List S81), Cut l i t → t.length < M → acc.length ≤ i → acc ≠ [] → Sh 2 e0 acc → NoOp t →
  (∃ (ps : List P24) (e : List S81) (k : Nat) (t' : List Nat), iter (B61 m K d) M (acc, castL l, (i : Int)) = some (.inr (ps, castL l, (k : Int))) ∧ i ≤ k ∧ Cut l k t' ∧ itA (oA D false false) t = preA e (itA (oA D false false) t') ∧ Sh 2 (e0 ++ e) ps ∧ ps ≠ [] ∧ StopQ t') ∨
  (∃ (p' : S24) (k : Nat) (t' : List Nat), iter (B61 m K d) M (acc, castL l, (i : Int)) = some (.inl ((p', false), st l k)) ∧ Cut l k t' ∧ itA (oA D false false) t = .inr t')
 | 0, _, _, _, _, _, h, _, _, _, _ => by omega
 | M + 1, i, t, acc, e0, h, hM, ha, hne, hS, hno => by
  have hil := h.2.1; have hl4 := h.2.2
  have hB : B61 m K d (acc, castL l, (i : Int)) = f61_r1 m K d acc (castL l) (i : Int) (goB t) := seq_go m K d acc h
  cases hg : goB t with
  | false =>
   rw [hg] at hB
   refine .inl ⟨acc, [], i, t, ?_, Nat.le_refl _, h, (preA_nil _).symm, by rw [List.append_nil]; exact hS, hne, .of hg hno⟩
   unfold iter
   rw [hB]
   rfl
  | true =>
   rw [hg] at hB
   rcases hF i t h hg with ⟨p, e, k, t', g1, g2, g3, g4, g5, g6⟩ | ⟨p, k, t', g1, g2, g3⟩
   ·have hl : t'.length < t.length := by have := h.len; have := g3.len; omega
    have hB2 : B61 m K d (acc, castL l, (i : Int)) = some (.nxt (acc ++ [p], castL l, (k : Int))) := by
     rw [hB]
     unfold f61_r1
     rw [cnd_true]
     show (bnd (K.r67 (st l i) d) fun v126 => _) = _
     rw [g1, bnd_some']
     show (bnd (app 72 acc [P24.con p.vw]) fun v127 => _) = _
     rw [P24.con_vw, app_some 72 acc [p] (by simp; omega) (by simp; omega), bnd_some']
     rfl
    have hit : iter (B61 m K d) (M + 1) (acc, castL l, (i : Int)) = iter (B61 m K d) M (acc ++ [p], castL l, (k : Int)) := by
     conv => lhs; unfold iter
     rw [hB2]
    have ih := row_rd m K D d hF M k t' (acc ++ [p]) (e0 ++ e) g3 (by omega) (by simp; omega) (by simp) (.rows hS g5) g6
    rw [hit, g4]
    rcases ih with ⟨q, e', k2, t2, h1, h2, h3, h4, h5, h6, h7⟩ | ⟨q, k2, t2, h1, h2, h3⟩
    ·exact .inl ⟨q, e ++ e', k2, t2, h1, by omega, h3, by rw [h4, preA_app], by rw [← List.append_assoc]; exact h5, h6, h7⟩
    ·exact .inr ⟨q, k2, t2, h1, h2, by rw [h3]; rfl⟩
   ·refine .inr ⟨p, k, t', ?_, g2, g3⟩
    have hB2 : B61 m K d (acc, castL l, (i : Int)) = some (.ret ((p, false), st l k)) := by
     rw [hB]
     unfold f61_r1
     rw [cnd_true]
     show (bnd (K.r67 (st l i) d) fun v126 => _) = _
     rw [g1, bnd_some']
     rfl
    conv => lhs; unfold iter
    rw [hB2]
theorem stuckN {D : Nat} {w : Bool} {t : List Nat} (hg : goB t = false) (hw : w = true → t.head? ≠ some 41) : itA (oA D true w) t = .inr t := by
 refine itA_stuck (fun e g => by cases g.2.1) fun c r e => ?_
 subst e
 have hc : stopL.contains c = true := by simpa [goB] using hg
 simp [stopL] at hc
 rcases hc with rfl | rfl | rfl | rfl | rfl | rfl | rfl | rfl | rfl | rfl | rfl
 ·cases w with
  | false => simp [stepA, plC, specL]
  | true => exact absurd rfl (hw rfl)
 all_goals cases w <;> simp [stepA, plC, specL]
theorem seq_rd (m : Nat) (hm : 100000 ≤ m) (K : Rec28) (D : Nat) (d : Int) {l : List Nat} (hF : ∀ (i : Nat) (t : List Nat) (need w : Bool), Cut l i t → goB t = true → Rd (K.r67 (st l i) d) l i t (oA D need w) (oA D false false) 1 NoOp)
  {i : Nat} {t : List Nat} {w : Bool} (h : Cut l i t) (hw : w = true → t.head? ≠ some 41) : Rd (b61 m K (st l i) d) l i t (oA D true w) (oA D false false) 3 StopQ := by
 obtain ⟨M, rfl⟩ : ∃ M, m = M + 1 := ⟨m - 1, by omega⟩
 unfold b61
 have hB : B61 (M + 1) K d ([], castL l, (i : Int)) = f61_r1 (M + 1) K d [] (castL l) (i : Int) (goB t) := seq_go (M + 1) K d [] h
 show Rd (brk (iter (B61 (M + 1) K d) (M + 1) ([], castL l, (i : Int))) _ _) _ _ _ _ _ _ _
 cases hg : goB t with
 | false =>
  rw [hg] at hB
  have : iter (B61 (M + 1) K d) (M + 1) ([], castL l, (i : Int)) = some (.inr ([], castL l, (i : Int))) := by
   unfold iter
   rw [hB]
   rfl
  rw [this, brk_inr]
  exact .inr ⟨_, i, t, rfl, h, stuckN hg hw⟩
 | true =>
  rw [hg] at hB
  have hl4 := h.2.2; have hlen := h.len
  rcases hF i t true w h hg with ⟨p, e, k, t', g1, g2, g3, g4, g5, g6⟩ | ⟨p, k, t', g1, g2, g3⟩
  ·have hB2 : B61 (M + 1) K d ([], castL l, (i : Int)) = some (.nxt ([p], castL l, (k : Int))) := by
    rw [hB]
    unfold f61_r1
    rw [cnd_true]
    show (bnd (K.r67 (st l i) d) fun v126 => _) = _
    rw [g1, bnd_some']
    show (bnd (app 72 [] [P24.con p.vw]) fun v127 => _) = _
    rw [P24.con_vw, app_some 72 [] [p] (by simp) (by simp), bnd_some']
    rfl
   have hit : iter (B61 (M + 1) K d) (M + 1) ([], castL l, (i : Int)) = iter (B61 (M + 1) K d) M ([p], castL l, (k : Int)) := by
    conv => lhs; unfold iter
    rw [hB2]
   have := g3.len
   rw [hit]
   rcases row_rd (M + 1) K D d (fun i t hc hg => hF i t false false hc hg) M k t' [p] e g3 (by omega) (by simp; omega) (by simp) (.row1 g5) g6 with ⟨ps, e', k2, t2, h1, h2, h3, h4, h5, h6, h7⟩ | ⟨q, k2, t2, h1, h2, h3⟩
   ·rw [h1, brk_inr]
    show Rd (cnd ((ps.length : Int) == 0) _ _) _ _ _ _ _ _ _
    rw [show ((ps.length : Int) == 0) = false from beq_eq_false_iff_ne.2 (by have := List.length_pos_iff.2 h6; omega), cnd_false]
    refine .inl ⟨rowP 3 ps, e ++ e', k2, t2, rowP_res 3 ps _ h6, by omega, h3, by rw [g4, h4, preA_app], .seq h5, h7⟩
   ·rw [h1, brk_inl]
    exact .inr ⟨q, k2, t2, rfl, h2, by rw [g4, h3]; rfl⟩
  ·have hB2 : B61 (M + 1) K d ([], castL l, (i : Int)) = some (.ret ((p, false), st l k)) := by
    rw [hB]
    unfold f61_r1
    rw [cnd_true]
    show (bnd (K.r67 (st l i) d) fun v126 => _) = _
    rw [g1, bnd_some']
    rfl
   have hit : iter (B61 (M + 1) K d) (M + 1) ([], castL l, (i : Int)) = some (.inl ((p, false), st l k)) := by
    conv => lhs; unfold iter
    rw [hB2]
   rw [hit, brk_inl]
   exact .inr ⟨p, k, t', rfl, g2, g3⟩
def StopR (t : List Nat) : Prop := ∀ x, t.head? = some x → x = 41 ∨ x = 93 ∨ x = 124 ∨ x = 125 ∨ x = 44
theorem b45_no (m : Nat) (K : Rec28) (d : Int) (y : (List Int) × Int × Int × (List Int) × (List P24) × Int × Int) (M : Nat) : iter (B45 m K d) (M + 1) (false, y) = some (.inr (false, y)) := by
 unfold iter
 rfl
theorem ops_rd (m : Nat) (K : Rec28) (D : Nat) (d : Int) {l : List Nat} (hS : ∀ (i : Nat) (t : List Nat), Cut l i t → Rd (K.r61 (st l i) d) l i t (oA D true false) (oA D false false) 3 StopQ) :
  ∀ (M i : Nat) (t : List Nat) (p : P24) (e0 : List S81), Cut l i t → t.length + 1 < M → Sh 4 e0 [p] → StopQ t →
  (∃ (p' : P24) (e : List S81) (k : Nat) (t' : List Nat), iter (B45 m K d) M (lp true l i p.vw) = some (.inr (lp true l k p'.vw)) ∧ i ≤ k ∧ Cut l k t' ∧ itA (oA D false false) t = preA e (itA (oA D false false) t') ∧ Sh 4 (e0 ++ e) [p'] ∧ StopR t') ∨
  (∃ (p' : S24) (k : Nat) (t' : List Nat), iter (B45 m K d) M (lp true l i p.vw) = some (.inr (lp false l k p')) ∧ Cut l k t' ∧ itA (oA D false false) t = .inr t')
 | 0, _, _, _, _, _, h, _, _ => by omega
 | M + 1, i, t, p, e0, h, hM, hp, hs => by
  have i38 := is_eq m h 38
  have i45 := is_eq m h 45
  simp only [Int.cast_ofNat_Int] at i38 i45
  have i38 : f46 m (⟨castL l, (i : Int)⟩ : S58) 38 = some (t.head? == some 38) := i38
  have i45 : f46 m (⟨castL l, (i : Int)⟩ : S58) 45 = some (t.head? == some 45) := i45
  by_cases hop : t.head? = some 38 ∨ t.head? = some 45
  ·obtain ⟨six, r, rfl⟩ : ∃ (six : Bool) (r : List Nat), t = (if six then 38 else 45) :: r := by
    cases t with
    | nil => simp at hop
    | cons x r =>
     rcases hop with hop | hop
     ·exact ⟨true, r, by have : x = 38 := (by simpa using hop); rw [this]; rfl⟩
     ·exact ⟨false, r, by have : x = 45 := (by simpa using hop); rw [this]; rfl⟩
   have hn := h.next
   have hstep : stepA (oA D false false) (if six then 38 else 45) = some (oA D true false, [sg (if six then 38 else 45)]) := by cases six <;> simp [stepA, plC, specL]
   have hB : ∀ (ok : Bool) (q : S24) (k : Nat), K.r61 (st l (i + 1)) d = some ((q, ok), st l k) → B45 m K d (lp true l i p.vw) = some (.nxt (lp ok l k (⟨if six then 6 else 7, [], [p, P24.con q], 0, 0⟩ : S24))) := by
    intro ok q k hr
    have hr' : K.r61 (⟨castL l, w64 ((i : Int) + 1)⟩ : S58) d = some ((q, ok), st l k) := by rw [h.w]; exact hr
    have hcon : P24.con (⟨p.vw.fKind, p.vw.fLabels, p.vw.fSubs, p.vw.fLeast, p.vw.fMost⟩ : S24) = p := P24.con_vw p
    show f45_B3 m K d true (castL l) (i : Int) p.vw.fKind p.vw.fLabels p.vw.fSubs p.vw.fLeast p.vw.fMost = _
    unfold f45_B3
    rw [cnd_true, i38, bnd_some']
    cases six with
    | true =>
     rw [show (((if true = true then 38 else 45) :: r : List Nat).head? == some 38) = true by simp, cnd_true, bnd_some']
     unfold f45_r2
     rw [cnd_true, i45, bnd_some', show (((if true = true then 38 else 45) :: r : List Nat).head? == some 45) = false by simp, cnd_false]
     unfold f45_j1
     rw [hr', bnd_some', hcon]
     rfl
    | false =>
     rw [show (((if false = true then 38 else 45) :: r : List Nat).head? == some 38) = false by simp, cnd_false, i45, show (((if false = true then 38 else 45) :: r : List Nat).head? == some 45) = true by simp, bnd_some', bnd_some']
     unfold f45_r2
     rw [cnd_true, i45, bnd_some', show (((if false = true then 38 else 45) :: r : List Nat).head? == some 45) = true by simp, cnd_true]
     unfold f45_j1
     rw [hr', bnd_some', hcon]
     rfl
   rw [List.length_cons] at hM
   rcases hS (i + 1) r hn with ⟨q, e, k, t', g1, g2, g3, g4, g5, g6⟩ | ⟨q, k, t', g1, g2, g3⟩
   ·have hB2 := hB true q.vw k g1
    rw [P24.con_vw] at hB2
    have hl : t'.length < r.length := by have := hn.len; have := g3.len; omega
    have ih := ops_rd m K D d hS M k t' (P24.con (⟨if six then 6 else 7, [], [p, q], 0, 0⟩ : S24)) (e0 ++ sg (if six then 38 else 45) :: e) g3 (by omega) (.both six hp g5) g6
    rw [P24.vw_con] at ih
    have hit : iter (B45 m K d) (M + 1) (lp true l i p.vw) = iter (B45 m K d) M (lp true l k (⟨if six then 6 else 7, [], [p, q], 0, 0⟩ : S24)) := by
     conv => lhs; unfold iter
     rw [hB2]
    rw [hit, itA_some hstep, g4]
    rcases ih with ⟨q', e', k2, t2, h1, h2, h3, h4, h5, h6⟩ | ⟨q', k2, t2, h1, h2, h3⟩
    ·exact .inl ⟨q', sg (if six then 38 else 45) :: (e ++ e'), k2, t2, h1, by omega, h3, by rw [h4, preA_app, preA_app]; rfl, by simpa using h5, h6⟩
    ·exact .inr ⟨q', k2, t2, h1, h2, by rw [h3]; rfl⟩
   ·obtain ⟨M', rfl⟩ : ∃ M', M = M' + 1 := ⟨M - 1, by omega⟩
    refine .inr ⟨(⟨if six then 6 else 7, [], [p, P24.con q], 0, 0⟩ : S24), k, t', ?_, g2, by rw [itA_some hstep, g3]; rfl⟩
    conv => lhs; unfold iter
    rw [hB false q k g1]
    exact b45_no m K d _ M'
  ·have hsr : StopR t := fun x hx => by
    have := hs x hx
    rw [hx] at hop
    have h1 : x ≠ 38 := fun e => hop (.inl (by rw [e]))
    have h2 : x ≠ 45 := fun e => hop (.inr (by rw [e]))
    omega
   refine .inl ⟨p, [], i, t, ?_, Nat.le_refl _, h, (preA_nil _).symm, by rw [List.append_nil]; exact hp, hsr⟩
   have hB : B45 m K d (lp true l i p.vw) = some (.brk (lp true l i p.vw)) := by
    show f45_B3 m K d true (castL l) (i : Int) p.vw.fKind p.vw.fLabels p.vw.fSubs p.vw.fLeast p.vw.fMost = _
    unfold f45_B3
    rw [cnd_true, i38, i45, bnd_some', show (t.head? == some 38) = false by simp; exact fun e => hop (.inl e), cnd_false, bnd_some', show (t.head? == some 45) = false by simp; exact fun e => hop (.inr e), bnd_some']
    rfl
   unfold iter
   rw [hB]
theorem both_rd (m : Nat) (hm : 100000 ≤ m) (K : Rec28) (D : Nat) (d : Int) {l : List Nat} (hS : ∀ (i : Nat) (t : List Nat) (w : Bool), Cut l i t → (w = true → t.head? ≠ some 41) → Rd (K.r61 (st l i) d) l i t (oA D true w) (oA D false false) 3 StopQ)
  {i : Nat} {t : List Nat} {w : Bool} (h : Cut l i t) (hw : w = true → t.head? ≠ some 41) : Rd (b45 m K (st l i) d) l i t (oA D true w) (oA D false false) 4 StopR := by
 obtain ⟨M, rfl⟩ : ∃ M, m = M + 1 := ⟨m - 1, by omega⟩
 unfold b45
 rcases hS i t w h hw with ⟨p, e, k, t', g1, g2, g3, g4, g5, g6⟩ | ⟨p, k, t', g1, g2, g3⟩
 ·rw [g1, bnd_some']
  show Rd (brk (iter (B45 (M + 1) K d) (M + 1) (lp true l k p.vw)) _ _) _ _ _ _ _ _ _
  have := g3.len; have := g3.2.2
  rcases ops_rd (M + 1) K D d (fun i t hc => hS i t false hc (fun e => by cases e)) (M + 1) k t' p e g3 (by omega) (.one g5) g6 with ⟨q, e', k2, t2, h1, h2, h3, h4, h5, h6⟩ | ⟨q, k2, t2, h1, h2, h3⟩
  ·rw [h1, brk_inr]
   exact .inl ⟨q, e ++ e', k2, t2, rfl, by omega, h3, by rw [g4, h4, preA_app], h5, h6⟩
  ·rw [h1, brk_inr]
   exact .inr ⟨q, k2, t2, rfl, h2, by rw [g4, h3]; rfl⟩
 ·rw [g1, bnd_some']
  show Rd (brk (iter (B45 (M + 1) K d) (M + 1) (false, castL l, (k : Int), p.fKind, p.fLabels, p.fSubs, p.fLeast, p.fMost)) _ _) _ _ _ _ _ _ _
  rw [b45_no, brk_inr]
  exact .inr ⟨p, k, t', rfl, g2, g3⟩
def Pre (e0 : List S81) (acc : List P24) : Prop := (acc = [] ∧ e0 = []) ∨ ∃ e1, e0 = e1 ++ [sg 124] ∧ Sh 5 e1 acc
theorem Pre.add {e0 e : List S81} {acc : List P24} {p : P24} (h : Pre e0 acc) (hp : Sh 4 e [p]) : Sh 5 (e0 ++ e) (acc ++ [p]) := by
 rcases h with ⟨rfl, rfl⟩ | ⟨e1, rfl, h⟩
 ·exact .alt1 hp
 ·have := Sh.alts h hp
  simpa using this
noncomputable abbrev B28 (m : Nat) (K : Rec28) (d : Int) : (List P24) × (List Int) × Int → Option (Stp ((S24 × Bool) × S58) ((List P24) × (List Int) × Int)) := fun y => f28_B1 m K d y.1 y.2.1 y.2.2
theorem alt_rd (m : Nat) (K : Rec28) (D : Nat) (d : Int) {l : List Nat} (hB4 : ∀ (i : Nat) (t : List Nat) (w : Bool), Cut l i t → (w = true → t.head? ≠ some 41) → Rd (K.r45 (st l i) d) l i t (oA D true w) (oA D false false) 4 StopR) :
  ∀ (M i : Nat) (t : List Nat) (acc : List P24) (e0 : List S81) (w : Bool), Cut l i t → t.length < M → acc.length ≤ i → Pre e0 acc → (w = true → t.head? ≠ some 41) →
  (∃ (ps : List P24) (e : List S81) (k : Nat) (t' : List Nat), iter (B28 m K d) M (acc, castL l, (i : Int)) = some (.inr (ps, castL l, (k : Int))) ∧ i < k ∧ Cut l k t' ∧ itA (oA D true w) t = preA e (itA (oA D false false) t') ∧ Sh 5 (e0 ++ e) ps ∧ ps ≠ [] ∧ StopX t') ∨
  (∃ (p' : S24) (k : Nat) (t' : List Nat), iter (B28 m K d) M (acc, castL l, (i : Int)) = some (.inl ((p', false), st l k)) ∧ Cut l k t' ∧ itA (oA D true w) t = .inr t')
 | 0, _, _, _, _, _, _, h, _, _, _ => by omega
 | M + 1, i, t, acc, e0, w, h, hM, ha, hP, hw => by
  have hil := h.2.1; have hl4 := h.2.2
  have hB0 : B28 m K d (acc, castL l, (i : Int)) = bnd (K.r45 (st l i) d) fun v22 => cnd (!v22.1.2) (some (.ret (((v22.1.1, false), v22.2)))) (bnd (app 72 acc ([(P24.con v22.1.1)])) fun v23 => bnd (f46 m v22.2 124) fun v24 => cnd (!v24) (some (.brk (v23, v22.2.fL, v22.2.fAt))) (some (.nxt (v23, v22.2.fL, w64 (v22.2.fAt + 1))))) := rfl
  rcases hB4 i t w h hw with ⟨p, e, k, t', g1, g2, g3, g4, g5, g6⟩ | ⟨p, k, t', g1, g2, g3⟩
  ·have is := is_eq m g3 124
   simp only [Int.cast_ofNat_Int] at is
   have happ : app 72 acc [P24.con p.vw] = some (acc ++ [p]) := by
    rw [P24.con_vw, app_some 72 acc [p] (by simp; omega) (by simp; omega)]
   rw [g1, bnd_some'] at hB0
   have hB1 : B28 m K d (acc, castL l, (i : Int)) = cnd (!(t'.head? == some 124)) (some (.brk (acc ++ [p], castL l, (k : Int)))) (some (.nxt (acc ++ [p], castL l, w64 ((k : Int) + 1)))) := by
    rw [hB0]
    show (bnd (app 72 acc [P24.con p.vw]) fun v23 => bnd (f46 m (st l k) 124) fun v24 => _) = _
    rw [happ, bnd_some', is, bnd_some']
    rfl
   cases hh : (t'.head? == some 124) with
   | false =>
    rw [hh] at hB1
    have hx : StopX t' := fun x hx => by
     have := g6 x hx
     have : x ≠ 124 := by intro e; subst e; rw [hx] at hh; simp at hh
     omega
    refine .inl ⟨acc ++ [p], e, k, t', ?_, g2, g3, g4, hP.add g5, by simp, hx⟩
    unfold iter
    rw [hB1]
    rfl
   | true =>
    obtain ⟨r, rfl⟩ : ∃ r', t' = 124 :: r' := by
     cases t' with
     | nil => simp at hh
     | cons y r' => simp at hh; subst hh; exact ⟨r', rfl⟩
    rw [hh, g3.w] at hB1
    have hl : (124 :: r).length ≤ t.length := by have := h.len; have := g3.len; omega
    rw [List.length_cons] at hl
    have hstep : stepA (oA D false false) 124 = some (oA D true false, [sg 124]) := by simp [stepA, plC, specL]
    have ih := alt_rd m K D d hB4 M (k + 1) r (acc ++ [p]) (e0 ++ e ++ [sg 124]) false g3.next (by omega) (by simp; omega) (.inr ⟨e0 ++ e, rfl, hP.add g5⟩) (fun e => by cases e)
    have hit : iter (B28 m K d) (M + 1) (acc, castL l, (i : Int)) = iter (B28 m K d) M (acc ++ [p], castL l, ((k + 1 : Nat) : Int)) := by
     conv => lhs; unfold iter
     rw [hB1]
     rfl
    rw [hit, g4, itA_some hstep]
    rcases ih with ⟨q, e', k2, t2, h1, h2, h3, h4, h5, h6, h7⟩ | ⟨q, k2, t2, h1, h2, h3⟩
    ·exact .inl ⟨q, e ++ sg 124 :: e', k2, t2, h1, by omega, h3, by rw [h4, preA_app, preA_app]; simp, by simpa using h5, h6, h7⟩
    ·exact .inr ⟨q, k2, t2, h1, h2, by rw [h3]; rfl⟩
  ·refine .inr ⟨p, k, t', ?_, g2, g3⟩
   have hB1 : B28 m K d (acc, castL l, (i : Int)) = some (.ret ((p, false), st l k)) := by
    rw [hB0, g1, bnd_some']
    rfl
   conv => lhs; unfold iter
   rw [hB1]
theorem either_rd (m : Nat) (hm : 100000 ≤ m) (K : Rec28) (D : Nat) (d : Int) {l : List Nat} (hB4 : ∀ (i : Nat) (t : List Nat) (w : Bool), Cut l i t → (w = true → t.head? ≠ some 41) → Rd (K.r45 (st l i) d) l i t (oA D true w) (oA D false false) 4 StopR)
  {i : Nat} {t : List Nat} {w : Bool} (h : Cut l i t) (hw : w = true → t.head? ≠ some 41) : Rd (b28 m K (st l i) d) l i t (oA D true w) (oA D false false) 6 StopX := by
 unfold b28
 show Rd (brk (iter (B28 m K d) m ([], castL l, (i : Int))) _ _) _ _ _ _ _ _ _
 have := h.len; have := h.2.2
 rcases alt_rd m K D d hB4 m i t [] [] w h (by omega) (Nat.zero_le _) (.inl ⟨rfl, rfl⟩) hw with ⟨ps, e, k, t', h1, h2, h3, h4, h5, h6, h7⟩ | ⟨q, k, t', h1, h2, h3⟩
 ·rw [h1, brk_inr]
  exact .inl ⟨rowP 4 ps, e, k, t', rowP_res 4 ps _ h6, h2, h3, h4, .ei h5, h7⟩
 ·rw [h1, brk_inl]
  exact .inr ⟨q, k, t', rfl, h2, h3⟩
theorem reader_rd (m : Nat) (hm : 100000 ≤ m) : ∀ (n D R : Nat), D + n = 80 → 5 * n + 5 ≤ R → ∀ (l : List Nat) (i : Nat) (t : List Nat) (w : Bool), Cut l i t → (w = true → t.head? ≠ some 41) → Rd ((K28 m R).r28 (st l i) ((D + 1 : Nat) : Int)) l i t (oA D true w) (oA D false false) 6 StopX := by
 intro n
 induction n with
 | zero =>
  intro D R hD hR l i t w h hw
  obtain ⟨R, rfl⟩ : ∃ R', R = R' + 5 := ⟨R - 5, by omega⟩
  refine either_rd m hm (K28 m (R + 4)) D _ (fun i t w h hw => ?_) h hw
  refine both_rd m hm (K28 m (R + 3)) D _ (fun i t w h hw => ?_) h hw
  refine seq_rd m hm (K28 m (R + 2)) D _ (fun i t need w h hg => ?_) h hw
  refine factor_rd m hm (K28 m (R + 1)) D _ _ h ?_
  exact atom_rd m hm (K28 m R) D (by omega) need w (fun hlt => by omega) h hg
 | succ n ih =>
  intro D R hD hR l i t w h hw
  obtain ⟨R, rfl⟩ : ∃ R', R = R' + 5 := ⟨R - 5, by omega⟩
  refine either_rd m hm (K28 m (R + 4)) D _ (fun i t w h hw => ?_) h hw
  refine both_rd m hm (K28 m (R + 3)) D _ (fun i t w h hw => ?_) h hw
  refine seq_rd m hm (K28 m (R + 2)) D _ (fun i t need w h hg => ?_) h hw
  refine factor_rd m hm (K28 m (R + 1)) D _ _ h ?_
  exact atom_rd m hm (K28 m R) D (by omega) need w (fun _ l i t w h hw => ih (D + 1) R (by omega) (by omega) l i t w h hw) h hg
end Go.Abs
