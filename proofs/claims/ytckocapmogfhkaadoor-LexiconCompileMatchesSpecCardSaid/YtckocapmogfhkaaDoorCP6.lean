import Derived.Test.YtckocapmogfhkaaDoorCP5
namespace Go.Abs
open Go.Sort Go.Proofs
set_option linter.unusedVariables false
set_option maxRecDepth 100000
def lexL : List Int → List Int → Bool
 | x :: a, y :: b => if x ≠ y then decide (x < y) else lexL a b
 | _, _ => false
theorem lexL_orr : ∀ (a b : List Int), a.length = b.length → lexL a b = decide (orr (List.zipWith cmpI a b) < 0)
 | [], [], _ => by simp [lexL, orr]
 | [], _ :: _, h => by simp at h
 | _ :: _, [], h => by simp at h
 | x :: a, y :: b, h => by
  have ih := lexL_orr a b (by simpa using h)
  simp only [lexL, List.zipWith_cons_cons, orr]
  by_cases e : x = y
  ·subst e
   have h0 : cmpI x x = 0 := toI.refl x
   rw [if_neg (by simp), if_neg (by simp [h0]), ih]
  ·have h0 : cmpI x y ≠ 0 := fun h => e ((toI.eq x y).1 h)
   rw [if_pos e, if_pos h0]
   unfold cmpI
   by_cases h1 : x < y
   ·rw [if_pos h1, decide_eq_true h1]; rfl
   ·rw [if_neg h1, if_pos (by omega), decide_eq_false h1]; rfl
theorem f37_loop (m : Nat) (x y : S40) : ∀ (K i : Nat), i ≤ 5 → 5 - i < K → iter (fun (z : Int) => f37_B1 m x y z) K (i : Int) = (match
   lexL ([x.fFrom, x.fIn, x.fOut, x.fTo, x.fWeight].drop i) ([y.fFrom, y.fIn, y.fOut, y.fTo, y.fWeight].drop i), decide ([x.fFrom, x.fIn, x.fOut, x.fTo, x.fWeight].drop i = [y.fFrom, y.fIn, y.fOut, y.fTo, y.fWeight].drop i) with
   | b, false => some (.inl b)
   | _, true => some (.inr 5))
 | 0, i, _, h => by omega
 | K + 1, i, h1, h2 => by
  unfold iter
  rcases Nat.lt_or_ge i 5 with hi | hi
  ·have hla : ([x.fFrom, x.fIn, x.fOut, x.fTo, x.fWeight]).length = 5 := rfl
   have hlb : ([y.fFrom, y.fIn, y.fOut, y.fTo, y.fWeight]).length = 5 := rfl
   have ih := f37_loop m x y K (i + 1) (by omega) (by omega)
   have hda := List.drop_eq_getElem_cons (l := [x.fFrom, x.fIn, x.fOut, x.fTo, x.fWeight]) (i := i) (by rw [hla]; exact hi)
   have hdb := List.drop_eq_getElem_cons (l := [y.fFrom, y.fIn, y.fOut, y.fTo, y.fWeight]) (i := i) (by rw [hlb]; exact hi)
   have e0 : f37_B1 m x y (i : Int) = cnd (([x.fFrom, x.fIn, x.fOut, x.fTo, x.fWeight])[i] != ([y.fFrom, y.fIn, y.fOut, y.fTo, y.fWeight])[i]) (some (.ret (decide (([x.fFrom, x.fIn, x.fOut, x.fTo, x.fWeight])[i] < ([y.fFrom, y.fIn, y.fOut, y.fTo, y.fWeight])[i])))) (some (.nxt ((i + 1 : Nat) : Int))) := by
    unfold f37_B1
    rw [hla, decide_eq_true (by omega), cnd_true, idx_get, List.getElem?_eq_getElem (by rw [hla]; exact hi), bnd_some', idx_get, List.getElem?_eq_getElem (by rw [hlb]; exact hi), bnd_some', w64_nat i (by omega)]
    rfl
   rw [hda, hdb]
   generalize ([x.fFrom, x.fIn, x.fOut, x.fTo, x.fWeight]).drop (i + 1) = A at ih ⊢
   generalize ([y.fFrom, y.fIn, y.fOut, y.fTo, y.fWeight]).drop (i + 1) = B at ih ⊢
   generalize ([x.fFrom, x.fIn, x.fOut, x.fTo, x.fWeight])[i] = a at e0 ⊢
   generalize ([y.fFrom, y.fIn, y.fOut, y.fTo, y.fWeight])[i] = b at e0 ⊢
   simp only [e0]
   by_cases hab : a = b
   ·subst hab
    have e1 : (a != a) = false := by simp
    have e2 : lexL (a :: A) (a :: B) = lexL A B := by simp [lexL]
    have e3 : decide (a :: A = a :: B) = decide (A = B) := by simp
    rw [e1, e2, e3]
    simp only [cnd_false]
    exact ih
   ·have e1 : (a != b) = true := by simpa using hab
    have e2 : lexL (a :: A) (b :: B) = decide (a < b) := by simp [lexL, hab]
    have e3 : decide (a :: A = b :: B) = false := by simp [hab]
    rw [e1, e2, e3]
    simp only [cnd_true]
  ·obtain rfl : i = 5 := by omega
   have e0 : f37_B1 m x y ((5 : Nat) : Int) = some (.brk 5) := by
    unfold f37_B1
    rw [decide_eq_false (by simp), cnd_false]
    rfl
   simp only [e0]
   simp
theorem f37_eq (m : Nat) (x y : S40) (hm : 6 ≤ m) : f37 m x y = some (decide (cmpA x y < 0)) := by
 have h := f37_loop m x y m 0 (by omega) (by omega)
 have h : iter (fun (z : Int) => f37_B1 m x y z) m 0 = _ := h
 simp only [List.drop_zero] at h
 unfold f37
 rw [h]
 have e := lexL_orr [x.fFrom, x.fIn, x.fOut, x.fTo, x.fWeight] [y.fFrom, y.fIn, y.fOut, y.fTo, y.fWeight] rfl
 have e1 : orr (List.zipWith cmpI [x.fFrom, x.fIn, x.fOut, x.fTo, x.fWeight] [y.fFrom, y.fIn, y.fOut, y.fTo, y.fWeight]) = cmpA x y := (cmpA_orr x y).symm
 rw [e1] at e
 by_cases hxy : [x.fFrom, x.fIn, x.fOut, x.fTo, x.fWeight] = [y.fFrom, y.fIn, y.fOut, y.fTo, y.fWeight]
 ·have hx : x = y := by
   cases x; cases y
   simp only [List.cons.injEq] at hxy
   obtain ⟨rfl, rfl, rfl, rfl, rfl, _⟩ := hxy
   rfl
  subst hx
  rw [decide_eq_true rfl]
  have h0 : cmpA x x = 0 := toA.refl x
  simp [h0]
 ·rw [decide_eq_false hxy, ← e]
  rfl
def LeA (a b : S40) : Prop := ¬ cmpA b a < 0
theorem LeA.of_lt {a b : S40} (h : cmpA a b < 0) : LeA a b := fun g => by
 have h1 := (toA.sw a b).1 h
 have h2 := (toA.sw b a).1 g
 omega
theorem LeA.trans {a b c : S40} (h : LeA a b) (g : LeA b c) : LeA a c := by
 have h1 : ltOf cmpA b a = false := (TO.lt_false _ _).2 (by unfold LeA at h; omega)
 have h2 : ltOf cmpA c b = false := (TO.lt_false _ _).2 (by unfold LeA at g; omega)
 have h3 := toA.swo.ntrans c b a h2 h1
 have := (TO.lt_false _ _).1 h3
 intro h; omega
theorem set_mid {α : Type} (p q : List α) (x z : α) : (p ++ x :: q).set p.length z = p ++ z :: q := by
 rw [List.set_append]
 simp
theorem get_mid {α : Type} (p q : List α) (x : α) : (p ++ x :: q)[p.length]? = some x := by simp
theorem f19_in (m : Nat) (x : S40) (post : List S40) (hm : 6 ≤ m) : ∀ (n : Nat) (pre mid : List S40) (K : Nat), pre.length = n → (pre ++ x :: mid ++ post).length ≤ 1000000 → n < K → (pre ++ mid).Pairwise LeA → (∀ y ∈ mid, cmpA x y < 0) →
  ∃ r j, iter (fun (y : (List S40) × Int) => f19_B2 m y.1 y.2) K (pre ++ x :: mid ++ post, (n : Int)) = some (.inr (r ++ post, j)) ∧ r.Perm (pre ++ x :: mid) ∧ r.Pairwise LeA
 | n, pre, mid, 0, _, _, h, _, _ => by omega
 | 0, pre, mid, K + 1, hn, hl, _, hs, hx => by
  obtain rfl : pre = [] := List.eq_nil_of_length_eq_zero hn
  refine ⟨x :: mid, 0, ?_, List.Perm.refl _, ?_⟩
  ·unfold iter
   have e0 : f19_B2 m ([] ++ x :: mid ++ post) ((0 : Nat) : Int) = some (.brk ([] ++ x :: mid ++ post, 0)) := by
    unfold f19_B2 f19_r1
    rw [decide_eq_false (by simp), cnd_false, bnd_some', cnd_false]
    rfl
   simp only [e0]
   rfl
  ·exact List.pairwise_cons.2 ⟨fun y hy => .of_lt (hx y hy), by simpa using hs⟩
 | n + 1, pre, mid, K + 1, hn, hl, hK, hs, hx => by
  obtain ⟨p, y, rfl⟩ : ∃ p y, pre = p ++ [y] := by
   rcases List.eq_nil_or_concat pre with h | ⟨p, y, h⟩
   ·subst h; simp at hn
   ·exact ⟨p, y, by simpa using h⟩
  have hp : p.length = n := by simpa using hn
  have hw : w64 (((n + 1 : Nat) : Int) - 1) = (n : Int) := by
   simp only [List.length_append, List.length_cons] at hl
   rw [w64_id ⟨by omega, by omega⟩]; omega
  have el : p ++ [y] ++ x :: mid ++ post = p ++ y :: (x :: mid ++ post) := by simp
  have el2 : p ++ y :: (x :: mid ++ post) = (p ++ [y]) ++ x :: (mid ++ post) := by simp
  have gx : (p ++ y :: (x :: mid ++ post))[n + 1]? = some x := by
   rw [el2]
   have := get_mid (p ++ [y]) (mid ++ post) x
   rwa [show (p ++ [y]).length = n + 1 by simp [hp]] at this
  have gy : (p ++ y :: (x :: mid ++ post))[n]? = some y := by
   have := get_mid p (x :: mid ++ post) y
   rwa [hp] at this
  unfold iter
  by_cases hlt : cmpA x y < 0
  ·have u1 : upd (p ++ y :: (x :: mid ++ post)) (((n + 1 : Nat)) : Int) y = some (p ++ y :: (y :: mid ++ post)) := by
    have hlen := lt_of_getElem? gx
    unfold upd
    rw [if_pos ⟨by omega, by simpa using hlen⟩, Int.toNat_natCast]
    have := set_mid (p ++ [y]) (mid ++ post) x y
    rw [show (p ++ [y]).length = n + 1 by simp [hp]] at this
    rw [el2, this]
    simp
   have g3 : (p ++ y :: (y :: mid ++ post))[n]? = some y := by
    have := get_mid p (y :: mid ++ post) y
    rwa [hp] at this
   have u2 : upd (p ++ y :: (y :: mid ++ post)) (n : Int) x = some (p ++ x :: (y :: mid ++ post)) := by
    have hlen := lt_of_getElem? g3
    unfold upd
    rw [if_pos ⟨by omega, by simpa using hlen⟩, Int.toNat_natCast]
    have := set_mid p (y :: mid ++ post) y x
    rw [hp] at this
    rw [this]
   have e0 : f19_B2 m (p ++ [y] ++ x :: mid ++ post) ((n + 1 : Nat) : Int) = some (.nxt (p ++ x :: (y :: mid) ++ post, (n : Int))) := by
    unfold f19_B2 f19_r1
    rw [el, decide_eq_true (by omega), cnd_true, idx_get, gx, bnd_some', hw, idx_get, gy, bnd_some', f37_eq m x y hm, decide_eq_true hlt]
    simp only [bnd_some', cnd_true, u1, idx_get, g3, u2]
    simp
   have hsw : (p ++ y :: mid).Pairwise LeA := by simpa using hs
   obtain ⟨r, j, r1, r2, r3⟩ := f19_in m x post hm n p (y :: mid) K hp (by simpa [Nat.add_comm, Nat.add_left_comm] using hl) (by omega) hsw (fun z hz => by
    rcases List.mem_cons.1 hz with rfl | hz
    ·exact hlt
    ·exact hx z hz)
   simp only [e0]
   refine ⟨r, j, r1, r2.trans ?_, r3⟩
   rw [List.append_assoc]
   exact List.Perm.append_left p (List.Perm.swap y x mid)
  ·have e0 : f19_B2 m (p ++ [y] ++ x :: mid ++ post) ((n + 1 : Nat) : Int) = some (.brk (p ++ [y] ++ x :: mid ++ post, ((n + 1 : Nat) : Int))) := by
    unfold f19_B2 f19_r1
    rw [el, decide_eq_true (by omega), cnd_true, idx_get, gx, bnd_some', hw, idx_get, gy, bnd_some', f37_eq m x y hm, decide_eq_false hlt]
    simp only [bnd_some', cnd_false]
   simp only [e0]
   refine ⟨p ++ [y] ++ x :: mid, _, rfl, List.Perm.refl _, ?_⟩
   have h3 := List.pairwise_append.1 hs
   refine List.pairwise_append.2 ⟨h3.1, List.pairwise_cons.2 ⟨fun z hz => .of_lt (hx z hz), h3.2.1⟩, fun a ha z hz => ?_⟩
   have hay : a = y ∨ LeA a y := by
    have h4 := List.pairwise_append.1 h3.1
    rcases List.mem_append.1 ha with h | h
    ·exact .inr (h4.2.2 a h y List.mem_cons_self)
    ·exact .inl (by simpa using h)
   rcases List.mem_cons.1 hz with rfl | hz
   ·rcases hay with rfl | hay
    ·exact hlt
    ·exact hay.trans hlt
   ·exact h3.2.2 a ha z hz
theorem f19_out (m : Nat) (l0 : List S40) (hl : l0.length ≤ 150000) (hm : 200000 ≤ m) : ∀ (K i : Nat) (l : List S40), l.Perm l0 → (l.take i).Pairwise LeA → 1 ≤ i → l0.length - i < K →
  ∃ r j, iter (fun (y : (List S40) × Int) => f19_B3 m y.1 y.2) K (l, (i : Int)) = some (.inr (r, j)) ∧ r.Perm l0 ∧ r.Pairwise LeA
 | 0, i, l, _, _, _, h => by omega
 | K + 1, i, l, hp, hs, h1, hK => by
  have hlen := hp.length_eq
  unfold iter
  rcases Nat.lt_or_ge i l.length with hi | hi
  ·have hd := List.drop_eq_getElem_cons hi
   have hsplit : l = l.take i ++ l[i] :: [] ++ l.drop (i + 1) := by
    have h := List.take_append_drop i l
    rw [hd] at h
    simp
   obtain ⟨r, j, r1, r2, r3⟩ := f19_in m l[i] (l.drop (i + 1)) (by omega) i (l.take i) [] m (by rw [List.length_take]; omega) (by rw [← hsplit]; omega) (by omega) (by simpa using hs) (fun y hy => by cases hy)
   rw [← hsplit] at r1
   have hrl : r.length = i + 1 := by rw [r2.length_eq]; simp; omega
   have e0 : f19_B3 m l (i : Int) = some (.nxt (r ++ l.drop (i + 1), ((i + 1 : Nat) : Int))) := by
    unfold f19_B3
    rw [decide_eq_true (by omega), cnd_true, r1, brk_inr, w64_nat i (by omega)]
   simp only [e0]
   refine f19_out m l0 hl hm K (i + 1) (r ++ l.drop (i + 1)) ?_ ?_ (by omega) (by omega)
   ·refine List.Perm.trans ?_ hp
    have : (r ++ l.drop (i + 1)).Perm (l.take i ++ l[i] :: [] ++ l.drop (i + 1)) := r2.append_right _
    rwa [← hsplit] at this
   ·rw [← hrl, List.take_left]; exact r3
  ·have e0 : f19_B3 m l (i : Int) = some (.brk (l, (i : Int))) := by
    unfold f19_B3
    rw [decide_eq_false (by omega), cnd_false]
   simp only [e0]
   exact ⟨l, _, rfl, hp, by rwa [List.take_of_length_le hi] at hs⟩
theorem srtA_of {l r : List S40} (hp : r.Perm l) (hs : r.Pairwise LeA) : r = srtC cmpA l := by
 refine srtC_is toA l r hp (hs.imp fun {a b} h => ?_)
 rw [TO.lt_false]
 unfold LeA at h
 omega
def lastA : S40 → List S40 → S40
 | x, [] => x
 | _, y :: r => lastA y r
theorem goC_snoc (y : S40) : ∀ (r : List S40) (x : S40), goC x (r ++ [y]) = if eqA y (lastA x r) then goC x r else goC x r ++ [y]
 | [], x => by
  show goC x [y] = _
  simp only [goC, lastA]
  split <;> simp_all
 | z :: r, x => by
  show goC x (z :: (r ++ [y])) = _
  simp only [goC, lastA]
  rw [goC_snoc y r z]
  split <;> split <;> simp
theorem lastA_get : ∀ (r : List S40) (x : S40), (x :: r)[r.length]? = some (lastA x r)
 | [], x => rfl
 | z :: r, x => by
  show (z :: r)[r.length]? = _
  rw [lastA_get r z]; rfl
theorem compactL_len : ∀ (l : List S40), (compactL l).length ≤ l.length := by
 have h : ∀ (r : List S40) (x : S40), (goC x r).length ≤ r.length := by
  intro r
  induction r with
  | nil => intro x; exact Nat.le_refl _
  | cons y r ih =>
   intro x
   simp only [goC]
   have := ih y
   split <;> simp only [List.length_cons] <;> omega
 intro l
 cases l with
 | nil => exact Nat.le_refl _
 | cons x r =>
  have := h r x
  simp only [compactL, List.length_cons]
  omega
theorem f19_dd (m : Nat) (out : List S40) (j0 : Int) (hl : out.length ≤ 150000) (hm : 200000 ≤ m) :
  iter (fun (y : (List S40) × Int) => f19_B10 m false (out, j0) y.1 y.2) m ([], 0) = some (.inr (compactL out, (out.length : Int))) := by
 refine iter_at (fun (y : (List S40) × Int) => f19_B10 m false (out, j0) y.1 y.2) (fun i => (compactL (out.take i), (i : Int))) out.length rfl (fun j hj => ?_) ?_ (by omega)
 ·obtain ⟨y, hy⟩ : ∃ y, out[j]? = some y := ⟨_, List.getElem?_eq_getElem hj⟩
  have hlen := compactL_len (out.take j)
  rw [List.length_take] at hlen
  have happ : app 40 (compactL (out.take j)) [y] = some (compactL (out.take j) ++ [y]) := app_some 40 _ _ (by simp only [List.length_singleton]; omega) (by simp only [List.length_singleton]; omega)
  show f19_B10 m false (out, j0) (compactL (out.take j)) (j : Int) = some (.nxt (compactL (out.take (j + 1)), ((j + 1 : Nat) : Int)))
  unfold f19_B10
  rw [take_snoc hy, decide_eq_true (by simpa using hj), cnd_true]
  simp only [idx_get, hy, bnd_some']
  have hw2 := w64_nat j (by omega)
  cases j with
  | zero =>
   rw [decide_eq_false (by simp), cnd_false]
   unfold f19_j5 f19_j4
   rw [happ, bnd_some', hw2]
   simp [compactL, goC]
  | succ k =>
   have hw : w64 (((k + 1 : Nat) : Int) - 1) = (k : Int) := by rw [w64_id ⟨by omega, by omega⟩]; omega
   have hk : k < out.length := by omega
   have hd : out.take (k + 1) ≠ [] := by
    intro h
    have := congrArg List.length h
    rw [List.length_take, List.length_nil] at this
    omega
   obtain ⟨x, r, hxr⟩ : ∃ x r, out.take (k + 1) = x :: r := by
    cases h : out.take (k + 1) with
    | nil => exact absurd h hd
    | cons x r => exact ⟨x, r, rfl⟩
   have hrl : r.length = k := by
    have := congrArg List.length hxr
    rw [List.length_take] at this
    simp at this
    omega
   have hlast : out[k]? = some (lastA x r) := by
    have h1 := lastA_get r x
    rw [hrl, ← hxr, List.getElem?_take, if_pos (by omega)] at h1
    exact h1
   rw [decide_eq_true (show ((k + 1 : Nat) : Int) > 0 by omega), cnd_true, hw]
   simp only [idx_get, hlast, bnd_some']
   have heq : (((((y.fFrom == (lastA x r).fFrom) && (y.fIn == (lastA x r).fIn)) && (y.fOut == (lastA x r).fOut)) && (y.fTo == (lastA x r).fTo)) && (false || (y.fWeight == (lastA x r).fWeight))) = eqA y (lastA x r) := by
    unfold eqA
    cases (y.fFrom == (lastA x r).fFrom) <;> cases (y.fIn == (lastA x r).fIn) <;> cases (y.fOut == (lastA x r).fOut) <;> cases (y.fTo == (lastA x r).fTo) <;> cases (y.fWeight == (lastA x r).fWeight) <;> rfl
   unfold f19_r9 f19_r8 f19_r7 f19_r6 f19_j5 f19_j4
   rw [heq, happ, bnd_some', hw2, hxr]
   show _ = some (Stp.nxt (x :: goC x (r ++ [y]), _))
   rw [goC_snoc]
   cases eqA y (lastA x r) <;> rfl
 ·show f19_B10 m false (out, j0) (compactL (out.take out.length)) (out.length : Int) = _
  unfold f19_B10
  rw [decide_eq_false (by simp), cnd_false, List.take_length]
theorem f19_eq (m : Nat) (l : List S40) (hl : l.length ≤ 150000) (hm : 200000 ≤ m) : f19 m l false = some (compactL (srtC cmpA l)) := by
 unfold f19
 rw [app_some 40 [] l (by simp only [List.length_nil]; omega) (by simp only [List.length_nil]; omega), bnd_some', List.nil_append]
 obtain ⟨r, j, r1, r2, r3⟩ := f19_out m l hl hm m 1 l (List.Perm.refl _) (by
  match l with
  | [] => exact List.Pairwise.nil
  | x :: r => exact List.pairwise_singleton _ _) (Nat.le_refl _) (by omega)
 have r1 : iter (fun (y : (List S40) × Int) => f19_B3 m y.1 y.2) m (l, 1) = _ := r1
 rw [r1, brk_inr, f19_dd m r j (by rw [r2.length_eq]; exact hl) hm, brk_inr, srtA_of r2 r3]
def machL (l : List S37) : S27 × S29 :=
 if (lexF l).fCode ≠ 0 then (⟨0, [], []⟩, lexF l)
 else if 400 < (arcsL l).1 then limS
 else if 2000 < (compactL (srtC cmpA (arcsL l).2)).length then limS
 else (⟨(arcsL l).1, compactL (srtC cmpA (arcsL l).2), [⟨(l.length : Int), 0⟩]⟩, ⟨0, 0⟩)
theorem lexF_two (l : List S37) : ((lexF l).fCode ≠ 0) ∨ lexF l = ⟨0, 0⟩ := by
 by_cases h : (lexF l).fCode = 0
 ·exact .inr (lexF_ok h).2
 ·exact .inl h
theorem bad_eq {f : S29} (h : f.fCode ≠ 0) : (!((f.fCode == 0) && ((f.fIndex == 0) && true))) = true := by
 have : (f.fCode == 0) = false := by simpa using h
 rw [this]; rfl
theorem arcsL_len {l : List S37} (ho : OkL l) : (arcsL l).2.length ≤ 136000 ∧ (¬ 400 < (arcsL l).1 → (arcsL l).2.length ≤ 5000) := by
 obtain ⟨a1, a2, a3, a4⟩ := foldC_bd (T := tagsL l) (N := (l.length : Int)) l 0 ((l.length : Int) + 1, []) ho.items ho.okI
 have e0 : (((l.length : Int) + 1, ([] : List S40))).2.length = 0 := rfl
 rw [e0] at a3 a4
 have hl := ho.len
 simp only at a1 a2 a4
 show (foldC (tagsL l) (l.length : Int) 0 l ((l.length : Int) + 1, [])).2.length ≤ 136000 ∧ (¬ 400 < (foldC (tagsL l) (l.length : Int) 0 l ((l.length : Int) + 1, [])).1 → (foldC (tagsL l) (l.length : Int) 0 l ((l.length : Int) + 1, [])).2.length ≤ 5000)
 constructor
 ·omega
 ·intro h; omega
theorem f4_eq (m : Nat) (a0 : S23) (hm : 200000 ≤ m) : f4 m a0 = some (machL a0.fClasses) := by
 unfold f4 machL
 rw [f7_eq m a0 (by omega), bnd_some']
 rcases lexF_two a0.fClasses with h | h
 ·rw [bad_eq h, cnd_true, if_pos h]
 ·rw [h]
  have ho := (lexF_ok (l := a0.fClasses) (by rw [h])).1
  have hl := ho.len
  obtain ⟨b1, b2⟩ := arcsL_len ho
  have hw : w64 ((a0.fClasses.length : Int) + 1) = (a0.fClasses.length : Int) + 1 := w64_id ⟨by omega, by omega⟩
  rw [if_neg (by simp)]
  show bnd (f8 m a0) _ = _
  rw [f8_eq m a0 ho (by omega), bnd_some', hw]
  obtain ⟨c1, c2⟩ := f4_classes m a0 ho hm
  by_cases hS : 400 < (arcsL a0.fClasses).1
  ·rw [c1 hS, brk_inl, if_pos hS]
  ·have b2 := b2 hS
   rw [c2 hS, brk_inr, if_neg hS]
   simp only [srt12]
   rw [if_pos (by omega), bnd_some']
   simp only [cmpct14]
   rw [if_pos (by rw [srtA_length]; omega), bnd_some']
   by_cases h2 : 2000 < (compactL (srtC cmpA (arcsL a0.fClasses).2)).length
   ·rw [decide_eq_true (by omega), cnd_true, if_pos h2]; rfl
   ·rw [decide_eq_false (by omega), cnd_false, if_neg h2]
theorem f6_eq (m : Nat) (a0 : S23) (hm : 200000 ≤ m) : f6 m a0 = some (machL a0.fClasses) := by
 unfold f6 machL
 rw [f15_eq m a0 (by omega), bnd_some']
 rcases lexF_two a0.fClasses with h | h
 ·rw [bad_eq h, cnd_true, if_pos h]
 ·rw [h]
  have ho := (lexF_ok (l := a0.fClasses) (by rw [h])).1
  have hl := ho.len
  obtain ⟨b1, b2⟩ := arcsL_len ho
  have hw : w64 ((a0.fClasses.length : Int) + 1) = (a0.fClasses.length : Int) + 1 := w64_id ⟨by omega, by omega⟩
  rw [if_neg (by simp)]
  show bnd (f16 m a0) _ = _
  rw [f16_eq m a0 ho hm, bnd_some', hw, f6_classes m a0 ho hm, brk_inr]
  by_cases hS : 400 < (arcsL a0.fClasses).1
  ·rw [decide_eq_true (by exact hS), cnd_true, if_pos hS]; rfl
  ·rw [decide_eq_false (by exact hS), cnd_false, if_neg hS]
   simp only
   rw [f19_eq m _ (by omega) hm, bnd_some']
   by_cases h2 : 2000 < (compactL (srtC cmpA (arcsL a0.fClasses).2)).length
   ·rw [decide_eq_true (by omega), cnd_true, if_pos h2]; rfl
   ·rw [decide_eq_false (by omega), cnd_false, if_neg h2]
theorem f5_refl (m : Nat) (a : S27) (h1 : a.fArcs.length ≤ 4000) (h2 : a.fFinals.length ≤ 4000) (hm : 200000 ≤ m) : f5 m a a = some true := by
 have e1 : iter (fun (y : Int) => f5_B1 m a a y) m 0 = some (.inr (a.fArcs.length : Int)) := by
  refine iter_at (fun (y : Int) => f5_B1 m a a y) (fun i => (i : Int)) a.fArcs.length rfl (fun j hj => ?_) ?_ (by omega)
  ·obtain ⟨y, hy⟩ : ∃ y, a.fArcs[j]? = some y := ⟨_, List.getElem?_eq_getElem hj⟩
   show f5_B1 m a a (j : Int) = _
   unfold f5_B1
   rw [decide_eq_true (by omega), cnd_true, idx_get, hy, bnd_some', bnd_some', w64_nat j (by omega)]
   simp
  ·show f5_B1 m a a (a.fArcs.length : Int) = _
   unfold f5_B1
   rw [decide_eq_false (by omega), cnd_false]
 have e2 : iter (fun (y : Int) => f5_B2 m a a y) m 0 = some (.inr (a.fFinals.length : Int)) := by
  refine iter_at (fun (y : Int) => f5_B2 m a a y) (fun i => (i : Int)) a.fFinals.length rfl (fun j hj => ?_) ?_ (by omega)
  ·obtain ⟨y, hy⟩ : ∃ y, a.fFinals[j]? = some y := ⟨_, List.getElem?_eq_getElem hj⟩
   show f5_B2 m a a (j : Int) = _
   unfold f5_B2
   rw [decide_eq_true (by omega), cnd_true, idx_get, hy, bnd_some', bnd_some', w64_nat j (by omega)]
   simp
  ·show f5_B2 m a a (a.fFinals.length : Int) = _
   unfold f5_B2
   rw [decide_eq_false (by omega), cnd_false]
 unfold f5 f5_r4 f5_r3
 have e3 : ((a.fStates != a.fStates) || ((a.fArcs.length : Int) != (a.fArcs.length : Int)) || ((a.fFinals.length : Int) != (a.fFinals.length : Int))) = false := by simp
 rw [e3, cnd_false, e1, brk_inr, e2, brk_inr]
theorem machL_small (l : List S37) : (machL l).1.fArcs.length ≤ 4000 ∧ (machL l).1.fFinals.length ≤ 4000 := by
 unfold machL
 split
 ·simp
 ·split
  ·simp
  ·split
   ·simp
   ·rename_i h
    constructor
    ·show (compactL (srtC cmpA (arcsL l).2)).length ≤ 4000
     omega
    ·simp
end Go.Abs
