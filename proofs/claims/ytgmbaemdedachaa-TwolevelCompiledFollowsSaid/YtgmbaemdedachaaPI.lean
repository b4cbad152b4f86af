import Derived.Test.YtgmbaemdedachaaPE
import Derived.Test.YtgmbaemdedachaaUS
import Derived.Test.YtgmbaemdedachaaVB
namespace Go.Abs.Pl
open Go.Sort Go.Proofs Go.Abs.Tc Go.Abs.Te Go.Abs.Tf Go.Abs.Tg
set_option linter.unusedVariables false
set_option linter.unusedSimpArgs false
set_option linter.unnecessarySimpa false
def en (R : List (List Int)) (i k : Nat) : Option Int := match R[i]? with
 | none => none
 | some row => row[k]?
theorem en_set {R : List (List Int)} {i j k m : Nat} {r : List Int} {x : Int} (hr : R[i]? = some r) (hm : m < r.length) : en (R.set i (r.set m x)) j k = if i = j ∧ m = k then some x else en R j k := by
 have hi := yE hr
 unfold en
 by_cases e : i = j
 ·subst e
  rw [zQ hi, hr]
  dsimp only
  by_cases e2 : m = k
  ·subst e2
   rw [zQ hm, if_pos ⟨rfl, rfl⟩]
  ·rw [zO e2, if_neg (fun h => e2 h.2)]
 ·rw [zO e, if_neg (fun h => e h.1)]
theorem arcsIn_to {n N : Nat} : ∀ (l : List S52) (R : List (List Int)), (∀ a ∈ l, ∃ i j k : Nat, a = ⟨i, j, (k : Int) + 1, (k : Int) + 1, 0⟩ ∧ i < N ∧ j < N ∧ k < n) → R.length = N → (∀ r ∈ R, r.length = n) →
  ∃ R', arcsIn n l R = some R' ∧ R'.length = N ∧ (∀ r ∈ R', r.length = n) ∧ ∀ (i k : Nat) t, en R' i k = some t → (∃ a ∈ l, a.fFr = (i : Int) ∧ a.fIn = (k : Int) + 1 ∧ a.fTo = t) ∨ (en R i k = some t ∧ ∀ a ∈ l, ¬ (a.fFr = (i : Int) ∧ a.fIn = (k : Int) + 1))
 | [], R, h1, h2, h3 => ⟨R, rfl, h2, h3, fun i k t h => .inr ⟨h, fun a ha => by simp at ha⟩⟩
 | x :: l, R, h1, h2, h3 => by
  obtain ⟨i, j, k, rfl, hi, hj, hk⟩ := h1 x (zH ..)
  have hr : R[i]? = some R[i] := zA om
  have hrl := h3 _ (List.getElem_mem (show i < R.length by omega))
  generalize R[i] = r at hr hrl
  have e1 : arcIn n R ⟨i, j, (k : Int) + 1, (k : Int) + 1, 0⟩ = some (R.set i (r.set k (j : Int))) := by
   unfold arcIn
   dsimp only
   rw [idx_get, hr]
   dsimp only
   rw [show (k : Int) + 1 - 1 = (k : Int) by omega, if_pos ⟨om, om⟩, zN, zN]
  unfold arcsIn
  rw [e1]
  dsimp only
  obtain ⟨R', e, g1, g2, g3⟩ := arcsIn_to l (R.set i (r.set k (j : Int))) (fun a ha => h1 a (zF _ ha)) (by rw [zP]; exact h2) (fun r' hr' => by
   rcases List.mem_or_eq_of_mem_set hr' with h | rfl
   ·exact h3 r' h
   ·rw [zP]; exact hrl)
  refine ⟨R', e, g1, g2, fun i' k' t ht => ?_⟩
  rcases g3 i' k' t ht with ⟨a, a1, a2⟩ | ⟨a1, a2⟩
  ·exact .inl ⟨a, zF _ a1, a2⟩
  ·rw [en_set hr om] at a1
   split at a1
   ·rename_i he
    cases a1
    exact .inl ⟨_, zH .., by rw [he.1], by rw [he.2], rfl⟩
   ·rename_i he
    refine .inr ⟨a1, fun a ha hh => ?_⟩
    rcases List.mem_cons.1 ha with rfl | ha
    ·exact he ⟨by have : (i : Int) = i' := hh.1; omega, by have : (k : Int) + 1 = k' + 1 := hh.2; omega⟩
    ·exact a2 a ha hh
theorem finsIn_to : ∀ (l : List S54) (F : List Bool), (∀ x ∈ l, ∃ i : Nat, x = ⟨i, 0⟩ ∧ i < F.length) → ∃ F', finsIn l F = some F' ∧ F'.length = F.length ∧ ∀ (i : Nat) b, F'[i]? = some b → (b = true ∧ ∃ x ∈ l, x.fSe = (i : Int)) ∨ (F[i]? = some b ∧ ∀ x ∈ l, x.fSe ≠ (i : Int))
 | [], F, h => ⟨F, rfl, rfl, fun i b h => .inr ⟨h, fun x hx => by simp at hx⟩⟩
 | x :: l, F, h => by
  obtain ⟨i, rfl, hi⟩ := h x (zH ..)
  have e1 : upd F (i : Int) true = some (F.set i true) := by
   unfold upd
   rw [if_pos ⟨om, by rw [zN]; exact hi⟩, zN]
  unfold finsIn
  dsimp only
  rw [e1]
  dsimp only
  obtain ⟨F', e, g1, g2⟩ := finsIn_to l (F.set i true) (fun x hx => by rw [zP]; exact h x (zF _ hx))
  refine ⟨F', e, by rw [g1, zP], fun j b hb => ?_⟩
  rcases g2 j b hb with ⟨a1, y, a2, a3⟩ | ⟨a1, a2⟩
  ·exact .inl ⟨a1, y, zF _ a2, a3⟩
  ·by_cases e : i = j
   ·subst e
    rw [zQ hi] at a1
    cases a1
    exact .inl ⟨rfl, _, zH .., rfl⟩
   ·rw [zO e] at a1
    refine .inr ⟨a1, fun y hy => ?_⟩
    rcases List.mem_cons.1 hy with rfl | hy
    ·intro hh
     exact e (by have : (i : Int) = j := hh; omega)
    ·exact a2 y hy
structure TabOk (n N : Nat) (x : List (List Int)) (p : List Bool) (acc : List Nat → Nat → Prop) : Prop where
 xl : x.length = N
 xr : ∀ r ∈ x, r.length = n
 xt : ∀ r ∈ x, ∀ t ∈ r, -1 ≤ t ∧ t < (N : Int)
 pl : p.length = N
 acc : ∀ w, (∀ k ∈ w, k < n) → ∀ s : Nat, s < N → (tacc x p w (s : Int) = true ↔ acc w s)
theorem f52_to {n : Nat} {M : S27} (hn : n ≤ 300) (hM : MOk n M) : ∃ (N : Nat) (x : List (List Int)) (p : List Bool), M.fSt = (N : Int) ∧ f52 M (numL n) = some (x, p) ∧ TabOk n N x p fun w s => macc M w (s : Int) := by
 obtain ⟨N, hN, hN4⟩ := hM.st
 have hA : ∀ a ∈ M.fAs, ∃ i j k : Nat, a = ⟨i, j, (k : Int) + 1, (k : Int) + 1, 0⟩ ∧ i < N ∧ j < N ∧ k < n := fun a ha => by
  obtain ⟨i, j, k, h1, h2, h3, h4⟩ := hM.arc a ha
  exact ⟨i, j, k, h1, om, om, h4⟩
 have hrep : ∀ r ∈ List.replicate N (List.replicate n (-1 : Int)), r.length = n := fun r hr => by
  rw [(List.mem_replicate.1 hr).2, zV]
 obtain ⟨R, e1, r1, r2, r3⟩ := arcsIn_to M.fAs (List.replicate N (List.replicate n (-1))) hA (by simp) hrep
 obtain ⟨F, e2, q1, q2⟩ := finsIn_to M.fFn (List.replicate N false) (fun x hx => by
  obtain ⟨i, h1, h2⟩ := hM.fin x hx
  exact ⟨i, h1, by rw [zV]; omega⟩)
 have hal := hM.al
 have hfl := hM.fl
 have henr : ∀ (i k : Nat) t, en (List.replicate N (List.replicate n (-1 : Int))) i k = some t → t = -1 := fun i k t h => by
  unfold en at h
  split at h
  ·cases h
  ·rename_i row hrow
   rw [zU] at hrow
   split at hrow
   ·cases hrow
    rw [zU] at h
    split at h
    ·exact (zC h).symm
    ·cases h
   ·cases hrow
 -- an entry
 have hent : ∀ (i k : Nat) t, en R i k = some t → (∃ a ∈ M.fAs, a.fFr = (i : Int) ∧ a.fIn = (k : Int) + 1 ∧ a.fTo = t) ∨ (t = -1 ∧ ∀ a ∈ M.fAs, ¬ (a.fFr = (i : Int) ∧ a.fIn = (k : Int) + 1)) := fun i k t h => by
  rcases r3 i k t h with h | ⟨h, h'⟩
  ·exact .inl h
  ·exact .inr ⟨henr i k t h, h'⟩
 refine ⟨N, R, F, hN, ?_, r1, r2, fun r hr t ht => ?_, by rw [q1, zV], ?_⟩
 ·unfold f52
  rw [if_pos ⟨om, om, by rw [numL_len]; omega, om, om⟩, numL_len, hN, zN, e1]
  dsimp only
  rw [e2]
 ·obtain ⟨i, hi⟩ := List.getElem?_of_mem hr
  obtain ⟨k, hk⟩ := List.getElem?_of_mem ht
  have : en R i k = some t := by unfold en; rw [hi]; exact hk
  rcases hent i k t this with ⟨a, a1, _, _, a4⟩ | ⟨a1, _⟩
  ·obtain ⟨i', j, k', h1, h2, h3, h4⟩ := hA a a1
   subst h1
   have : (j : Int) = t := a4
   omega
  ·omega
 ·intro w
  induction w with
  | nil =>
   intro _ s hs
   unfold tacc macc
   rw [zN]
   have hsF : s < F.length := by rw [q1, zV]; exact hs
   have hf : F[s]? = some F[s] := zA hsF
   rw [hf]
   have := q2 s _ hf
   generalize F[s] = b at this
   rcases this with ⟨rfl, h⟩ | ⟨h, h'⟩
   ·simp only [Option.getD_some, Bool.and_true, decide_eq_true_eq]
    exact ⟨fun _ => h, fun _ => by omega⟩
   ·rw [zU, if_pos hs] at h
    cases h
    simp only [Option.getD_some, Bool.and_false, Bool.false_eq_true, false_iff]
    rintro ⟨x, hx, he⟩
    exact h' x hx he
  | cons k w ih =>
   intro hw s hs
   have hk := hw k (zH ..)
   have ih := ih (fun k hk => hw k (zF _ hk))
   have hr : R[s]? = some R[s] := zA om
   have hrl := r2 _ (zE hr)
   unfold tacc macc
   rw [zN, hr]
   generalize R[s] = row at hr hrl
   dsimp only
   have hx : row[k]? = some row[k] := zA om
   rw [hx]
   generalize row[k] = t at hx
   dsimp only
   have he : en R s k = some t := by unfold en; rw [hr]; exact hx
   have hd : decide (0 ≤ ((s : Nat) : Int)) = true := by simp
   rw [hd, Bool.true_and]
   rcases hent s k t he with ⟨a, a1, a2, a3, a4⟩ | ⟨a1, a2⟩
   ·obtain ⟨i', j, k', h1, h2, h3, h4⟩ := hA a a1
    have hj : (j : Int) = t := by rw [h1] at a4; exact a4
    rw [← hj, ih j h3]
    constructor
    ·exact fun h => ⟨a, a1, a2, a3, by rw [a4, ← hj]; exact h⟩
    ·rintro ⟨b, b1, b2, b3, b4⟩
     have := hM.func a a1 b b1 (by rw [a2, b2]) (by rw [a3, b3])
     rw [hj, ← a4, this]
     exact b4
   ·subst a1
    rw [tacc_neg om]
    simp only [Bool.false_eq_true, false_iff]
    rintro ⟨b, b1, b2, b3, _⟩
    exact a2 b b1 ⟨b2, b3⟩
def sacc {σ : Type} (step : σ → Nat → Option σ) (fin : σ → Bool) : List Nat → σ → Bool
 | [], s => fin s
 | k :: w, s => match step s k with
  | none => false
  | some t => sacc step fin w t
structure Expl {σ : Type} (n : Nat) (step : σ → Nat → Option σ) (fin : σ → Bool) (L : List σ) (N : List (List Int)) (F : List Bool) : Prop where
 row : ∀ (i : Nat) s, L[i]? = some s → ∃ row, N[i]? = some row ∧ ∀ k, k < n → ∃ t, row[k]? = some t ∧ ((t < 0 ∧ step s k = none) ∨ ∃ (j : Nat) (s' : σ), t = (j : Int) ∧ L[j]? = some s' ∧ step s k = some s')
 fin : ∀ (i : Nat) s, L[i]? = some s → F[i]? = some (fin s)
theorem expl_acc {σ : Type} {n : Nat} {step : σ → Nat → Option σ} {fin : σ → Bool} {L : List σ} {N : List (List Int)} {F : List Bool} (h : Expl n step fin L N F) : ∀ (w : List Nat), (∀ k ∈ w, k < n) → ∀ (i : Nat) s, L[i]? = some s → tacc N F w (i : Int) = sacc step fin w s
 | [], hw, i, s, hs => by
  unfold tacc sacc
  rw [zN, h.fin i s hs]
  simp
 | k :: w, hw, i, s, hs => by
  obtain ⟨row, h1, h2⟩ := h.row i s hs
  obtain ⟨t, h3, h4⟩ := h2 k (hw k (zH ..))
  unfold tacc sacc
  rw [zN, h1]
  dsimp only
  rw [h3]
  dsimp only
  have hd : decide (0 ≤ ((i : Nat) : Int)) = true := by simp
  rw [hd, Bool.true_and]
  rcases h4 with ⟨a1, a2⟩ | ⟨j, s', rfl, a2, a3⟩
  ·rw [tacc_neg a1, a2]
  ·rw [a3]
   exact expl_acc h w (fun k hk => hw k (zF _ hk)) j s' a2
open Go.Sort Go.Proofs Go.Abs.Tc Go.Abs.Te Go.Abs.Tf Go.Abs.Tg Go.Abs.Th Go.Abs.Ts Go.Abs.Tw
variable {x : S111}
theorem eqA_eq {y : S111} (h : Tu.eqA x y = true) : x = y := by
 cases x; cases y
 simp [Tu.eqA] at h
 rw [h.1, h.2]
theorem goH_iff {x : S111} : ∀ {p : S111} {l : List S111}, (x = p ∨ x ∈ Tu.goC p l) ↔ (x = p ∨ x ∈ l)
 | p, [] => by simp [Tu.goC]
 | p, y :: r => by
  unfold Tu.goC
  by_cases h : Tu.eqA y p = true
  ·rw [if_pos h]
   have := eqA_eq h
   subst this
   rw [goH_iff]
   simp
  ·rw [if_neg h, List.mem_cons, List.mem_cons, goH_iff (p := y) (l := r)]
variable {l : List S111}
theorem coH_iff : x ∈ Tu.compactL l ↔ x ∈ l := by
 cases l with
 | nil => exact Iff.rfl
 | cons y r =>
  show x ∈ y :: Tu.goC y r ↔ _
  rw [List.mem_cons, List.mem_cons, goH_iff]
theorem eqW_eq {x y : List S111} (h : Tv.eqW x y = true) : x = y := by simpa [Tv.eqW] using h
theorem goN_iff {x : List S111} : ∀ {p : List S111} {l : List (List S111)}, (x = p ∨ x ∈ Tv.goC p l) ↔ (x = p ∨ x ∈ l)
 | p, [] => by simp [Tv.goC]
 | p, y :: r => by
  unfold Tv.goC
  by_cases h : Tv.eqW y p = true
  ·rw [if_pos h]
   have := eqW_eq h
   subst this
   rw [goN_iff]
   simp
  ·rw [if_neg h, List.mem_cons, List.mem_cons, goN_iff (p := y) (l := r)]
theorem coN_iff {x : List S111} {l : List (List S111)} : x ∈ Tv.compactL l ↔ x ∈ l := by
 cases l with
 | nil => exact Iff.rfl
 | cons y r =>
  show x ∈ y :: Tv.goC y r ↔ _
  rw [List.mem_cons, List.mem_cons, goN_iff]
variable {r : S57}
theorem ordH_iff (hn : r.fCx.length ≤ 1000000) (hk : ∀ h ∈ l, Hok r h) : x ∈ ordH l ↔ x ∈ l := by
 unfold ordH
 rw [coH_iff]
 constructor
 ·intro h
  obtain ⟨y, hy, rfl⟩ := List.mem_map.1 h
  obtain ⟨z, hz, rfl⟩ := List.mem_map.1 ((srtC_perm _).mem_iff.1 hy)
  rw [hokLt hn (hk z hz)]
  exact hz
 ·intro h
  exact List.mem_map.2 ⟨toHP x, (srtC_perm _).mem_iff.2 (List.mem_map_of_mem h), hokLt hn (hk x h)⟩
theorem ordL_iff (hn : r.fCx.length ≤ 1000000) {l : List (List S111)} (hk : ∀ x ∈ l, x.length ≤ 1000000 ∧ ∀ h ∈ x, Hok r h) {x : List S111} : x ∈ ordL l ↔ x ∈ l := by
 unfold ordL
 rw [coN_iff]
 constructor
 ·intro h
  obtain ⟨y, hy, rfl⟩ := List.mem_map.1 h
  obtain ⟨z, hz, rfl⟩ := List.mem_map.1 ((srtC_perm _).mem_iff.1 hy)
  rw [toHL_ok hn (hk z hz).1 (hk z hz).2]
  exact hz
 ·intro h
  exact List.mem_map.2 ⟨toHL x, (srtC_perm _).mem_iff.2 (List.mem_map_of_mem h), toHL_ok hn (hk x h).1 (hk x h).2⟩
theorem bit_nat : ∀ x : Fin 16, ∀ k : Fin 4, bitB ((x.val : Nat) : Int) k.val = x.val.testBit k.val := by decide +kernel
theorem or_nat : ∀ x : Fin 16, ∀ k : Fin 3, orI ((x.val : Nat) : Int) (shlI 1 (k.val + 1)) = ((x.val ||| 2 ^ (k.val + 1) : Nat) : Int) := by decide +kernel
theorem or_lt : ∀ x : Fin 16, ∀ k : Fin 3, x.val ||| 2 ^ (k.val + 1) < 16 := by decide +kernel
def Hv (r : S57) (h : S111) : Prop := ∃ c, idx r.fCx h.fCt = some c ∧ 0 ≤ h.fSn ∧ h.fSn ≤ (c.fRt.length : Int)
structure SV (r : S57) (s : S82) : Prop where
 left : ∀ l ∈ s.fLf, ∃ x : Nat, l = (x : Int) ∧ x < 16
 bad : ∀ h ∈ s.fBad, Hv r h
 needs : ∀ l ∈ s.fNd, ∀ h ∈ l, Hv r h
variable {h : S111}
theorem Hv.ok (hr : RuOk r) (hv : Hv r h) : Hok r h := by
 obtain ⟨c, h1, h2, h3⟩ := hv
 have := hr.rok _ _ h1
 exact ⟨⟨c, h1⟩, h2, om⟩
theorem Hv.b (hr : RuOk r) (hv : Hv r h) : 0 ≤ h.fCt ∧ h.fCt < 3 ∧ 0 ≤ h.fSn ∧ h.fSn ≤ 3 := by
 obtain ⟨c, h1, h2, h3⟩ := hv
 obtain ⟨g0, g1, g2⟩ := idx_some h1
 have := hr.n
 have := hr.cr c (zE g1)
 omega
theorem onS_v {p : S48} (h : ∀ x ∈ l, Hv r x) : ∀ x ∈ onS r p l, Hv r x := by
 intro x hx
 obtain ⟨a, ha, rfl⟩ := List.mem_map.1 hx
 obtain ⟨h1, h2⟩ := List.mem_filter.1 ha
 obtain ⟨c, hc, h3, h4⟩ := h a h1
 unfold goes at h2
 rw [hc] at h2
 dsimp only at h2
 refine ⟨c, hc, by show 0 ≤ a.fSn + 1; omega, ?_⟩
 show a.fSn + 1 ≤ _
 cases hq : idx c.fRt a.fSn with
 | none => rw [hq] at h2; cases h2
 | some q =>
  obtain ⟨_, _, h5⟩ := idx_some hq
  omega
theorem hereB_v (r : S57) : ∀ (cs : List S72) (ls : List Int) (i : Nat), r.fCx.drop i = cs → ∀ h ∈ hereB cs ls i, Hv r h
 | [], ls, i, _ => by simp [hereB]
 | _ :: _, [], i, _ => by simp [hereB]
 | c :: cs, l :: ls, i, e => by
  intro h hh
  have hi : r.fCx[i]? = some c := by
   have := congrArg (fun z => z[0]?) e
   simpa using this
  have he : r.fCx.drop (i + 1) = cs := by
   have := congrArg (List.drop 1) e
   rw [List.drop_drop] at this
   simpa using this
  rcases List.mem_append.1 hh with h1 | h1
  ·split at h1
   ·simp at h1
    subst h1
    exact ⟨c, by rw [idx_get]; exact hi, Int.le_refl _, by show (0 : Int) ≤ _; omega⟩
   ·simp at h1
  ·exact hereB_v r cs ls (i + 1) he h h1
theorem spotB_v {p : S48} {l : Int} : ∀ (q : List S48) (k b : Nat), k + q.length ≤ 3 → b < 16 → ∃ x : Nat, spotB l p q k (b : Int) = (x : Int) ∧ x < 16
 | [], k, b, h1, h2 => ⟨b, rfl, h2⟩
 | a :: q, k, b, h1, h2 => by
  rw [List.length_cons] at h1
  unfold spotB
  split
  ·have e := or_nat ⟨b, h2⟩ ⟨k, om⟩
   have e2 := or_lt ⟨b, h2⟩ ⟨k, om⟩
   dsimp only at e e2
   rw [e]
   exact spotB_v q (k + 1) _ om e2
  ·exact spotB_v q (k + 1) b om h2
theorem leftsB_v {p : S48} : ∀ (cs : List S72) (ls : List Int), (∀ c ∈ cs, c.fLf.length ≤ 3) → ∀ l ∈ leftsB p cs ls, ∃ x : Nat, l = (x : Int) ∧ x < 16
 | [], ls, _ => by simp [leftsB]
 | _ :: _, [], _ => by simp [leftsB]
 | c :: cs, l :: ls, h => by
  intro y hy
  rcases List.mem_cons.1 hy with rfl | hy
  ·unfold leftB
   have := h c (zH ..)
   split
   ·exact spotB_v c.fLf 0 0 om om
   ·exact spotB_v c.fLf 0 1 om om
  ·exact leftsB_v cs ls (fun c hc => h c (zF _ hc)) y hy
theorem needsB_v {r : S57} {p : S48} : ∀ (xs A : List (List S111)), (∀ x ∈ xs, ∀ h ∈ x, Hv r h) → (∀ x ∈ A, ∀ h ∈ x, Hv r h) → ∀ x ∈ (needsB r p xs A).1, ∀ h ∈ x, Hv r h
 | [], A, _, h2 => h2
 | y :: ys, A, h1, h2 => by
  have hy := h1 y (zH ..)
  have hys := fun x hx => h1 x (zF _ hx)
  unfold needsB
  split
  ·exact h2
  ·refine needsB_v ys _ hys ?_
   split
   ·exact h2
   ·intro x hx
    rcases List.mem_append.1 hx with hx | hx
    ·exact h2 x hx
    ·simp at hx
     subst hx
     exact onS_v hy
theorem sv_start (r : S57) : SV r (Tw.start r) := ⟨fun l hl => ⟨1, (List.mem_replicate.1 hl).2, om⟩, fun h hh => by simp at hh, fun h hh => by simp at hh⟩
theorem sv_step {j : Nat} {s : S82} (p : S48) (hr : RuOk r) (hi : SInv r j s) (h : SV r s) : SV r (stepB r s p).1 := by
 have h1 := leftsB_v (p := p) r.fCx s.fLf hr.cl
 have h2 := onS_v (p := p) h.bad
 have h3 := hereB_v r r.fCx s.fLf 0 rfl
 have h4 := needsB_v (p := p) s.fNd [] h.needs (fun x hx => by simp at hx)
 have h4k := needsB_k (p := p) hr.rok s.fNd [] hi.needk (fun x hx => by simp at hx)
 have h3k := hereB_len r.fCx s.fLf 0
 have h5 : ∀ h ∈ badB r p (onS r p s.fBad) (hereB r.fCx s.fLf 0), Hv r h := by
  unfold badB
  split
  ·intro x hx
   rcases List.mem_append.1 hx with hx | hx
   ·exact h2 x hx
   ·exact h3 x hx
  ·exact h2
 have h6 : ∀ A : List (List S111), (∀ x ∈ A, ∀ h ∈ x, Hv r h) → ∀ x ∈ ownN r p (hereB r.fCx s.fLf 0) A, ∀ h ∈ x, Hv r h := by
  intro A hA
  unfold ownN
  split
  ·split
   ·exact hA
   ·intro x hx
    rcases List.mem_append.1 hx with hx | hx
    ·exact hA x hx
    ·simp at hx
     subst hx
     exact h3
  ·exact hA
 unfold stepB
 rcases hz : needsB r p s.fNd [] with ⟨A, b⟩
 rw [hz] at h4 h4k
 have h4 : ∀ x ∈ A, ∀ h ∈ x, Hv r h := h4
 have h4k : ∀ x ∈ A, x.length ≤ 3 ∧ ∀ h ∈ x, Hok r h := h4k
 have h7 := h6 A h4
 have h0 := hr.n
 have h7k : ∀ x ∈ ownN r p (hereB r.fCx s.fLf 0) A, x.length ≤ 1000000 ∧ ∀ h ∈ x, Hok r h := fun x hx => ⟨by
  unfold ownN at hx
  split at hx
  ·split at hx
   ·have := (h4k x hx).1; omega
   ·rcases List.mem_append.1 hx with hx | hx
    ·have := (h4k x hx).1; omega
    ·simp at hx
     subst hx
     omega
  ·have := (h4k x hx).1; omega, fun y hy => (h7 x hx y hy).ok hr⟩
 cases b
 ·exact ⟨h1, h2, h4⟩
 ·dsimp only
  split
  ·exact ⟨h1, h5, h4⟩
  ·split
   ·exact ⟨h1, h5, h7⟩
   ·exact ⟨h1, fun x hx => h5 x ((ordH_iff (r := r) om (fun y hy => (h5 y hy).ok hr)).1 hx), fun x hx => h7 x ((ordL_iff (r := r) om h7k).1 hx)⟩
theorem wB_eq (x : Int) : wB x = x % 256 := w8_eq x
variable {r : S57}
theorem hB_eq (hr : RuOk r) {h : S111} (hv : Hv r h) : hB h = 16 * h.fCt + h.fSn := by
 obtain ⟨a, b, c, d⟩ := hv.b hr
 unfold hB
 have e1 : w64 (16 * h.fCt) = 16 * h.fCt := w64_id ⟨om, om⟩
 rw [e1, w64_id ⟨om, om⟩, wB_eq]
 omega
theorem hB_inj {r : S57} (hr : RuOk r) : ∀ {l l' : List S111}, (∀ h ∈ l, Hv r h) → (∀ h ∈ l', Hv r h) → l.map hB = l'.map hB → l = l'
 | [], [], _, _, _ => rfl
 | [], _ :: _, _, _, h => by simp at h
 | _ :: _, [], _, _, h => by simp at h
 | x :: l, y :: l', h1, h2, h => by
  simp only [List.map_cons, List.cons.injEq] at h
  have e := hB_inj hr (fun z hz => h1 z (zF _ hz)) (fun z hz => h2 z (zF _ hz)) h.2
  have hx := h1 x (zH ..)
  have hy := h2 y (zH ..)
  have e2 := h.1
  rw [hB_eq hr hx, hB_eq hr hy] at e2
  have := hx.b hr
  have := hy.b hr
  have e3 : x = y := by
   cases x; cases y
   simp only [S111.mk.injEq] at *
   omega
  rw [e, e3]
theorem hB_lt (hr : RuOk r) {l : List S111} (h : ∀ h ∈ l, Hv r h) : ∀ x ∈ l.map hB, 0 ≤ x ∧ x < 64 := by
 intro x hx
 obtain ⟨y, hy, rfl⟩ := List.mem_map.1 hx
 rw [hB_eq hr (h y hy)]
 have := (h y hy).b hr
 omega
theorem split_at {c : Int} : ∀ {A A' X X' : List Int}, (∀ a ∈ A, a ≠ c) → (∀ a ∈ A', a ≠ c) → A ++ c :: X = A' ++ c :: X' → A = A' ∧ X = X'
 | [], [], X, X', _, _, h => by simp at h; exact ⟨rfl, h⟩
 | [], y :: A', X, X', _, h2, h => by
  simp at h
  exact absurd h.1.symm (h2 y (zH ..))
 | x :: A, [], X, X', h1, _, h => by
  simp at h
  exact absurd h.1 (h1 x (zH ..))
 | x :: A, y :: A', X, X', h1, h2, h => by
  simp only [List.cons_append, List.cons.injEq] at h
  obtain ⟨e1, e2⟩ := split_at (fun z hz => h1 z (zF _ hz)) (fun z hz => h2 z (zF _ hz)) h.2
  exact ⟨by rw [h.1, e1], e2⟩
theorem needs_inj {r : S57} (hr : RuOk r) : ∀ {l l' : List (List S111)}, (∀ x ∈ l, ∀ h ∈ x, Hv r h) → (∀ x ∈ l', ∀ h ∈ x, Hv r h) → l.flatMap needL = l'.flatMap needL → l = l'
 | [], [], _, _, _ => rfl
 | [], y :: l', _, _, h => by
  rw [List.flatMap_cons] at h
  have := congrArg List.length h
  simp [needL] at this
 | x :: l, [], _, _, h => by
  rw [List.flatMap_cons] at h
  have := congrArg List.length h
  simp [needL] at this
 | x :: l, y :: l', h1, h2, h => by
  rw [List.flatMap_cons, List.flatMap_cons, needL, needL, List.append_assoc, List.append_assoc] at h
  obtain ⟨e1, e2⟩ := split_at (c := 254) (fun a ha => by have := hB_lt hr (h1 x (zH ..)) a ha; omega) (fun a ha => by have := hB_lt hr (h2 y (zH ..)) a ha; omega) h
  rw [hB_inj hr (h1 x (zH ..)) (h2 y (zH ..)) e1, needs_inj hr (fun z hz => h1 z (zF _ hz)) (fun z hz => h2 z (zF _ hz)) e2]
theorem left_inj : ∀ {l l' : List Int}, (∀ y ∈ l, ∃ x : Nat, y = (x : Int) ∧ x < 16) → (∀ y ∈ l', ∃ x : Nat, y = (x : Int) ∧ x < 16) → l.map wB = l'.map wB → l = l'
 | [], [], _, _, _ => rfl
 | [], _ :: _, _, _, h => by simp at h
 | _ :: _, [], _, _, h => by simp at h
 | x :: l, y :: l', h1, h2, h => by
  simp only [List.map_cons, List.cons.injEq] at h
  have e := left_inj (fun z hz => h1 z (zF _ hz)) (fun z hz => h2 z (zF _ hz)) h.2
  obtain ⟨a, rfl, ha⟩ := h1 x (zH ..)
  obtain ⟨b, rfl, hb⟩ := h2 y (zH ..)
  have e2 := h.1
  rw [wB_eq, wB_eq] at e2
  rw [e, show a = b by omega]
variable {s : S82}
theorem keyL_byte (hr : RuOk r) (h : SV r s) : ∀ x ∈ keyL s, 0 ≤ x ∧ x < 256 := by
 intro x hx
 unfold keyL at hx
 rcases List.mem_append.1 hx with hx | hx
 ·rcases List.mem_append.1 hx with hx | hx
  ·rcases List.mem_append.1 hx with hx | hx
   ·obtain ⟨y, hy, rfl⟩ := List.mem_map.1 hx
    rw [wB_eq]
    omega
   ·have := hB_lt hr h.bad x hx
    omega
  ·simp at hx
   omega
 ·obtain ⟨l, hl, hx⟩ := List.mem_flatMap.1 hx
  unfold needL at hx
  rcases List.mem_append.1 hx with hx | hx
  ·have := hB_lt hr (h.needs l hl) x hx
   omega
  ·simp at hx
   omega
theorem keyB_inj (hr : RuOk r) {s' : S82} (h : SV r s) (h' : SV r s') (hl : s.fLf.length = s'.fLf.length) (e : (keyB s).toList = (keyB s').toList) : s = s' := by
 have e := strI_inj (keyL_byte hr h) (keyL_byte hr h') e
 unfold keyL at e
 rw [List.append_assoc, List.append_assoc, List.append_assoc, List.append_assoc] at e
 obtain ⟨e1, e2⟩ := List.append_inj e (by rw [List.length_map, List.length_map, hl])
 obtain ⟨e3, e4⟩ := split_at (c := 255) (fun a ha => by have := hB_lt hr h.bad a ha; omega) (fun a ha => by have := hB_lt hr h'.bad a ha; omega) e2
 have a1 := left_inj h.left h'.left e1
 have a2 := hB_inj hr h.bad h'.bad e3
 have a3 := needs_inj hr h.needs h'.needs e4
 cases s; cases s'
 simp only at a1 a2 a3
 rw [a1, a2, a3]
def stepN (r : S57) (ps : List S48) (s : S82) (k : Nat) : Option S82 := match ps[k]? with
 | none => none
 | some p => if (stepB r s p).2 then some (stepB r s p).1 else none
structure KI (r : S57) (L : List S82) (K : List ByteArray) : Prop where
 inv : LInv r L K
 sv : ∀ s ∈ L, SV r s
 key : ∀ (j : Nat) s, L[j]? = some s → K[j]? = some (keyB s)
theorem KI.push {L : List S82} {K : List ByteArray} (h : KI r L K) {i : Nat} (hr : RuOk r) (hs : L[i]? = some s) (p : S48) : KI r (L ++ [(stepB r s p).1]) (K ++ [keyB (stepB r s p).1]) := by
 have hi := yE hs
 have hsv := h.inv.st i s hs
 refine ⟨h.inv.push hr hi hsv _, fun x hx => ?_, fun j x hx => ?_⟩
 ·rcases List.mem_append.1 hx with hx | hx
  ·exact h.sv x hx
  ·simp at hx
   subst hx
   exact sv_step p hr hsv (h.sv s (zE hs))
 ·rcases (yF _ _ _ _).1 hx with ⟨g, gl⟩ | ⟨g1, g⟩
  ·rw [zJ (by rw [h.inv.len]; exact gl)]
   exact h.key j x g
  ·subst g
   rw [g1, ← h.inv.len, zK (zL _), Nat.sub_self]
   rfl
def Ent (r : S57) (s : S82) (p : S48) (L : List S82) (t : Int) : Prop := (t < 0 ∧ (stepB r s p).2 = false) ∨ ∃ j : Nat, t = (j : Int) ∧ L[j]? = some (stepB r s p).1 ∧ (stepB r s p).2 = true
theorem rowB_ent {r : S57} (hr : RuOk r) {i : Nat} {s : S82} : ∀ (ps : List S48) (k : Nat) (L : List S82) (K : List ByteArray) (R : List Int), KI r L K → L[i]? = some s → k + ps.length ≤ R.length →
  KI r (rowB r s ps k L K R).1 (rowB r s ps k L K R).2.1 ∧ (∀ (q : Nat) p, ps[q]? = some p → ∃ t, (rowB r s ps k L K R).2.2[k + q]? = some t ∧ Ent r s p (rowB r s ps k L K R).1 t) ∧ ∀ m, m < k → (rowB r s ps k L K R).2.2[m]? = R[m]?
 | [], k, L, K, R, hK, hs, hk => ⟨hK, fun q p hq => by simp at hq, fun _ _ => rfl⟩
 | p :: ps, k, L, K, R, hK, hs, hk => by
  rw [List.length_cons] at hk
  have hi := yE hs
  have go : ∀ (K' : List ByteArray) (X : List S82) (t : Int), KI r (L ++ X) K' → Ent r s p (L ++ X) t →
    KI r (rowB r s ps (k + 1) (L ++ X) K' (R.set k t)).1 (rowB r s ps (k + 1) (L ++ X) K' (R.set k t)).2.1 ∧ (∀ (q : Nat) p', (p :: ps)[q]? = some p' → ∃ t', (rowB r s ps (k + 1) (L ++ X) K' (R.set k t)).2.2[k + q]? = some t' ∧ Ent r s p' (rowB r s ps (k + 1) (L ++ X) K' (R.set k t)).1 t') ∧
    ∀ m, m < k → (rowB r s ps (k + 1) (L ++ X) K' (R.set k t)).2.2[m]? = R[m]? := by
   intro K' X t hK' ht
   have hs' : (L ++ X)[i]? = some s := by rw [zJ hi]; exact hs
   obtain ⟨g1, g2, g3⟩ := rowB_ent hr ps (k + 1) (L ++ X) K' (R.set k t) hK' hs' (by rw [zP]; omega)
   have hold := (rowB_to hr (hK'.inv.st i s hs') ps (k + 1) (L ++ X) K' (R.set k t) hK'.inv (yE hs')).old
   refine ⟨g1, fun q p' hq => ?_, fun m hm => by rw [g3 m om, zO om]⟩
   cases q with
   | zero =>
    simp at hq
    subst hq
    refine ⟨t, by rw [show k + 0 = k from rfl, g3 k om]; exact zQ om, ?_⟩
    rcases ht with h | ⟨j, h1, h2, h3⟩
    ·exact .inl h
    ·exact .inr ⟨j, h1, hold j _ h2, h3⟩
   | succ q =>
    have := g2 q p' (by simpa using hq)
    rw [show k + 1 + q = k + (q + 1) by omega] at this
    exact this
  have hp := hK.push hr hs p
  unfold rowB
  cases hb : (stepB r s p).2 with
  | false =>
   have := go K [] (-1) (by rw [List.append_nil]; exact hK) (.inl ⟨om, hb⟩)
   rw [List.append_nil] at this
   simp only [Bool.false_eq_true, if_false]
   exact this
  | true =>
   simp only [if_true]
   cases hf : kfind (keyB (stepB r s p).1) K 0 with
   | none =>
    dsimp only
    exact go _ [(stepB r s p).1] (L.length : Int) hp (.inr ⟨L.length, rfl, by rw [zK (zL _), Nat.sub_self]; rfl, hb⟩)
   | some j =>
    dsimp only
    have := go K [] (j : Int) (by rw [List.append_nil]; exact hK) (.inr ⟨j, rfl, by
     rw [List.append_nil]
     obtain ⟨kk, k1, k2⟩ := kfind_val hf
     rw [Nat.sub_zero] at k1
     have hj := yE k1
     rw [hK.inv.len] at hj
     have hx : L[j]? = some L[j] := zA hj
     have k3 := hK.key j _ hx
     have hm := hK.sv _ (zE hx)
     have hl := (hK.inv.st j _ hx).left
     rw [k1] at k3
     have k4 := zC k3
     rw [k4] at k2
     have hsv := hK.inv.st i s hs
     have hst := sinv_step p hr hsv
     rw [hx, keyB_inj hr hm (sv_step p hr hsv (hK.sv s (zE hs))) (by rw [hl, hst.left]) k2], hb⟩)
    rw [List.append_nil] at this
    exact this
structure OneI (r : S57) (ps : List S48) (i : Nat) (L : List S82) (N : List (List Int)) (F : List Bool) : Prop where
 nl : N.length = i
 fl : F.length = i
 row : ∀ (j : Nat) s, j < i → L[j]? = some s → ∃ row, N[j]? = some row ∧ ∀ (k : Nat) p, ps[k]? = some p → ∃ t, row[k]? = some t ∧ Ent r s p L t
 fin : ∀ (j : Nat) s, j < i → L[j]? = some s → F[j]? = some (endsB r s)
theorem oneB_to {r : S57} (hr : RuOk r) {ps : List S48} (hps : ps.length ≤ 300) : ∀ (m i : Nat) (L : List S82) (K : List ByteArray) (N : List (List Int)) (F : List Bool), KI r L K → OneI r ps i L N F → i ≤ L.length → L.length ≤ 20000 → 20002 ≤ m + i →
  ∃ g, oneB r ps m i L K N F = some g ∧ (g = none ∨ ∃ N' F' L', g = some (N', F') ∧ (∀ (j : Nat) x, L[j]? = some x → L'[j]? = some x) ∧ Expl ps.length (stepN r ps) (endsB r) L' N' F')
 | 0, i, L, K, N, F, hK, hO, h1, h2, h3 => by omega
 | m + 1, i, L, K, N, F, hK, hO, h1, h2, h3 => by
  unfold oneB
  cases hs : L[i]? with
  | none =>
   have := List.getElem?_eq_none_iff.1 hs
   refine ⟨_, rfl, .inr ⟨N, F, L, rfl, fun _ _ h => h, ⟨fun j s hj => ?_, fun j s hj => ?_⟩⟩⟩
   ·obtain ⟨row, a1, a2⟩ := hO.row j s (by have := yE hj; omega) hj
    refine ⟨row, a1, fun k hk => ?_⟩
    have hp : ps[k]? = some ps[k] := zA hk
    obtain ⟨t, a3, a4⟩ := a2 k _ hp
    refine ⟨t, a3, ?_⟩
    unfold stepN
    rw [hp]
    dsimp only
    rcases a4 with ⟨b1, b2⟩ | ⟨q, b1, b2, b3⟩
    ·exact .inl ⟨b1, by rw [b2]; rfl⟩
    ·exact .inr ⟨q, _, b1, b2, by rw [b3]; rfl⟩
   ·exact hO.fin j s (by have := yE hj; omega) hj
  | some s =>
   dsimp only
   have hi := yE hs
   obtain ⟨g1, g2, g3⟩ := rowB_ent hr ps 0 L K (List.replicate ps.length 0) hK hs (by simp)
   have hto := rowB_to hr (hK.inv.st i s hs) ps 0 L K (List.replicate ps.length 0) hK.inv hi
   rcases hz : rowB r s ps 0 L K (List.replicate ps.length 0) with ⟨L', K', R⟩
   rw [hz] at g1 g2 hto
   have hold : ∀ (j : Nat) x, L[j]? = some x → L'[j]? = some x := hto.old
   have hlo : L.length ≤ L'.length := hto.lo
   dsimp only
   split
   ·exact ⟨_, rfl, .inl rfl⟩
   ·rename_i hlim
    have back : ∀ (j : Nat) x, j ≤ i → L'[j]? = some x → L[j]? = some x := fun j x hj hx => by
     have h5 : L[j]? = some L[j] := zA om
     have h6 := hold j _ h5
     rw [hx] at h6
     rw [h5, ← h6]
    have hO' : OneI r ps (i + 1) L' (N ++ [R]) (F ++ [endsB r s]) := by
     refine ⟨by simp [hO.nl], by simp [hO.fl], fun j x hj hx => ?_, fun j x hj hx => ?_⟩
     ·have hx0 := back j x om hx
      by_cases hji : j < i
      ·obtain ⟨row, a1, a2⟩ := hO.row j x hji hx0
       refine ⟨row, by rw [zJ (yE a1)]; exact a1, fun k p hp => ?_⟩
       obtain ⟨t, a3, a4⟩ := a2 k p hp
       refine ⟨t, a3, ?_⟩
       rcases a4 with h | ⟨q, b1, b2, b3⟩
       ·exact .inl h
       ·exact .inr ⟨q, b1, hold q _ b2, b3⟩
      ·have : j = i := by omega
       subst this
       rw [hs] at hx0
       cases hx0
       refine ⟨R, by rw [← hO.nl, zK (zL _), Nat.sub_self]; rfl, fun k p hp => ?_⟩
       have := g2 k p hp
       rw [Nat.zero_add] at this
       exact this
     ·have hx0 := back j x om hx
      by_cases hji : j < i
      ·rw [zJ (by rw [hO.fl]; exact hji)]
       exact hO.fin j x hji hx0
      ·have : j = i := by omega
       subst this
       rw [hs] at hx0
       cases hx0
       rw [← hO.fl, zK (zL _), Nat.sub_self]
       rfl
    obtain ⟨g, e, h5⟩ := oneB_to hr hps m (i + 1) L' K' (N ++ [R]) (F ++ [endsB r s]) g1 hO' om om om
    refine ⟨g, e, ?_⟩
    rcases h5 with h5 | ⟨N', F', L2, a1, a2, a3⟩
    ·exact .inl h5
    ·exact .inr ⟨N', F', L2, a1, fun j x hx => a2 j x (hold j x hx), a3⟩
theorem f28_to (hr : RuOk r) {ps : List S48} (hps : ps.length ≤ 300) (m : Nat) (hm : 10000000 ≤ m) :
  ∃ M f, f28 m r ps = some (M, f) ∧ (f = ⟨17, -1⟩ ∨ f = ⟨0, 0⟩ ∧ MOk ps.length M ∧ ∀ w, (∀ k ∈ w, k < ps.length) → (macc M w 0 ↔ sacc (stepN r ps) (endsB r) w (Tw.start r) = true)) := by
 have hK : KI r [Tw.start r] [keyB (Tw.start r)] := ⟨⟨rfl, fun j s hs => by
  match j, hs with
  | 0, hs => cases hs; exact sinv_start r⟩, fun s hs => by simp at hs; subst hs; exact sv_start r, fun j s hs => by
  match j, hs with
  | 0, hs => cases hs; rfl⟩
 obtain ⟨g, e, h⟩ := oneB_to hr hps 20002 0 [Tw.start r] [keyB (Tw.start r)] [] [] hK ⟨rfl, rfl, fun j s hj => absurd hj (Nat.not_lt_zero _), fun j s hj => absurd hj (Nat.not_lt_zero _)⟩ (Nat.zero_le _) (by simp) om
 have hok : ∀ N F, g = some (N, F) → OkT N F ps.length := fun N F hg => by
  rw [hg] at e
  exact oneB_ok hr 20002 0 [Tw.start r] [keyB (Tw.start r)] [] [] (N, F) hK.inv rfl rfl (Nat.zero_le _) (by simp) (fun x hx => by simp at hx) (by simp) e
 unfold f28
 rw [e]
 rcases h with rfl | ⟨N, F, L, rfl, h1, h2⟩
 ·exact ⟨_, _, rfl, .inl rfl⟩
 ·dsimp only
  obtain ⟨M, f, e2, h3⟩ := f47_to hps (hok N F rfl) m hm
  refine ⟨M, f, e2, ?_⟩
  rcases h3 with h3 | ⟨h3, h4, h5⟩
  ·exact .inl h3
  ·refine .inr ⟨h3, h4, fun w hw => ?_⟩
   rw [h5 w]
   have := expl_acc h2 w hw 0 (Tw.start r) (h1 0 _ rfl)
   rw [show ((0 : Nat) : Int) = 0 from rfl] at this
   rw [this]
open Go.Sort Go.Proofs Go.Abs.Tc Go.Abs.Te Go.Abs.Tf Go.Abs.Tg Go.Abs.Th Go.Abs.Ts Go.Abs.Tw Go.Abs.Ty
theorem cfind_val {s : S95} : ∀ {L : List S95} {i j : Nat}, cfind s L i = some j → L[j - i]? = some s
 | [], i, j, h => by cases h
 | x :: r, i, j, h => by
  unfold cfind at h
  split at h
  ·rename_i e
   cases h
   have e : s.fA = x.fA ∧ s.fB = x.fB := by simpa using e
   have : s = x := by
    cases s; cases x
    simp only [S95.mk.injEq]
    exact e
   rw [this]
   simp
  ·have h1 := cfind_val h
   have := (cfind_lt h).1
   rw [show j - i = (j - (i + 1)) + 1 by omega]
   simpa using h1
def stepM (x y : List (List Int)) (c : S95) (k : Nat) : Option S95 := match ent x c.fA k, ent y c.fB k with
 | some a, some b => if a < 0 ∨ b < 0 then none else some ⟨a, b⟩
 | _, _ => none
def finM (p q : List Bool) (c : S95) : Bool := (idx p c.fA).getD false && (idx q c.fB).getD false
def VC (N1 N2 : Nat) (c : S95) : Prop := (0 ≤ c.fA ∧ c.fA < (N1 : Int)) ∧ 0 ≤ c.fB ∧ c.fB < (N2 : Int)
section
variable {n N1 N2 : Nat} {x y : List (List Int)} {p q : List Bool} {a1 a2 : List Nat → Nat → Prop}
theorem tab_ent {N : Nat} {acc : List Nat → Nat → Prop} (h : TabOk n N x p acc) {s : Int} (h0 : 0 ≤ s) (h1 : s < (N : Int)) {k : Nat} (hk : k < n) : ∃ t row, ent x s k = some t ∧ x[s.toNat]? = some row ∧ row[k]? = some t ∧ -1 ≤ t ∧ t < (N : Int) := by
 have hsl : s.toNat < x.length := by rw [h.xl]; omega
 have hr : x[s.toNat]? = some x[s.toNat] := zA hsl
 have hm := zE hr
 generalize x[s.toNat] = row at hr hm
 have hl := h.xr row hm
 have hkl : k < row.length := by omega
 have hx : row[k]? = some row[k] := zA hkl
 have ht := h.xt row hm _ (zE hx)
 refine ⟨row[k], row, ?_, hr, hx, ht⟩
 unfold ent idx
 rw [if_pos h0, hr]
 exact hx
def EntM (x y : List (List Int)) (c : S95) (k : Nat) (L : List S95) (t : Int) : Prop := (t < 0 ∧ stepM x y c k = none) ∨ ∃ (j : Nat) (c' : S95), t = (j : Int) ∧ L[j]? = some c' ∧ stepM x y c k = some c'
theorem rowC_ent (hx : TabOk n N1 x p a1) (hy : TabOk n N2 y q a2) {c : S95} (hc : VC N1 N2 c) : ∀ (z k : Nat) (L : List S95) (R : List Int), (∀ c ∈ L, VC N1 N2 c) → k + z ≤ n → k + z ≤ R.length →
  ∃ L' R', rowC x y c z k L R = some (L', R') ∧ (∀ c ∈ L', VC N1 N2 c) ∧ (∀ (j : Nat) c, L[j]? = some c → L'[j]? = some c) ∧ (∀ m, k ≤ m → m < k + z → ∃ t, R'[m]? = some t ∧ EntM x y c m L' t) ∧ (∀ m, m < k → R'[m]? = R[m]?) ∧ L.length ≤ L'.length
 | 0, k, L, R, h1, h2, h3 => ⟨L, R, rfl, h1, fun _ _ h => h, fun m a b => by omega, fun _ _ => rfl, zL _⟩
 | z + 1, k, L, R, h1, h2, h3 => by
  obtain ⟨a, _, e1, _, _, e2, e3⟩ := tab_ent hx hc.1.1 hc.1.2 (show k < n by omega)
  obtain ⟨b, _, e4, _, _, e5, e6⟩ := tab_ent hy hc.2.1 hc.2.2 (show k < n by omega)
  have hstep : stepM x y c k = if a < 0 ∨ b < 0 then none else some ⟨a, b⟩ := by unfold stepM; rw [e1, e4]
  have go : ∀ (X : List S95) (t : Int), (∀ c ∈ L ++ X, VC N1 N2 c) → EntM x y c k (L ++ X) t →
    ∃ L' R', rowC x y c z (k + 1) (L ++ X) (R.set k t) = some (L', R') ∧ (∀ c ∈ L', VC N1 N2 c) ∧ (∀ (j : Nat) c, L[j]? = some c → L'[j]? = some c) ∧ (∀ m, k ≤ m → m < k + (z + 1) → ∃ t, R'[m]? = some t ∧ EntM x y c m L' t) ∧ (∀ m, m < k → R'[m]? = R[m]?) ∧ L.length ≤ L'.length := by
   intro X t hX ht
   obtain ⟨L', R', e, g1, g2, g3, g4, g5⟩ := rowC_ent hx hy hc z (k + 1) (L ++ X) (R.set k t) hX om (by rw [zP]; omega)
   rw [List.length_append] at g5
   refine ⟨L', R', e, g1, fun j d hd => g2 j d (by rw [zJ (yE hd)]; exact hd), fun m hm1 hm2 => ?_, fun m hm => by rw [g4 m om, zO om], om⟩
   by_cases e : m = k
   ·subst e
    refine ⟨t, by rw [g4 m om]; exact zQ om, ?_⟩
    rcases ht with h | ⟨j, c', b1, b2, b3⟩
    ·exact .inl h
    ·exact .inr ⟨j, c', b1, g2 j _ b2, b3⟩
   ·exact g3 m om om
  unfold rowC
  rw [e1, e4]
  dsimp only
  by_cases hn : a < 0 ∨ b < 0
  ·rw [if_pos hn] at hstep ⊢
   have := go [] (-1) (by rw [List.append_nil]; exact h1) (.inl ⟨om, hstep⟩)
   rw [List.append_nil] at this
   exact this
  ·rw [if_neg hn] at hstep ⊢
   cases hf : cfind ⟨a, b⟩ L 0 with
   | some j =>
    have hj := cfind_val hf
    have := go [] (j : Int) (by rw [List.append_nil]; exact h1) (.inr ⟨j, _, rfl, by rw [List.append_nil]; exact hj, hstep⟩)
    rw [List.append_nil] at this
    exact this
   | none =>
    exact go [⟨a, b⟩] (L.length : Int) (fun d hd => by
     rcases List.mem_append.1 hd with h | h
     ·exact h1 d h
     ·simp at h
      subst h
      exact ⟨⟨by show 0 ≤ a; omega, e3⟩, by show 0 ≤ b; omega, e6⟩) (.inr ⟨L.length, _, rfl, by rw [zK (zL _), Nat.sub_self]; rfl, hstep⟩)
structure MeI (x y : List (List Int)) (p q : List Bool) (n i : Nat) (L : List S95) (N : List (List Int)) (F : List Bool) : Prop where
 nl : N.length = i
 fl : F.length = i
 row : ∀ (j : Nat) c, j < i → L[j]? = some c → ∃ row, N[j]? = some row ∧ ∀ k, k < n → ∃ t, row[k]? = some t ∧ EntM x y c k L t
 fin : ∀ (j : Nat) c, j < i → L[j]? = some c → F[j]? = some (finM p q c)
theorem meetB_to (hx : TabOk n N1 x p a1) (hy : TabOk n N2 y q a2) : ∀ (m i : Nat) (L : List S95) (N : List (List Int)) (F : List Bool), (∀ c ∈ L, VC N1 N2 c) → MeI x y p q n i L N F → i ≤ L.length → L.length ≤ 20000 → 20002 ≤ m + i →
  ∃ g, meetB x p y q n m i L N F = some g ∧ (g = none ∨ ∃ N' F' L', g = some (N', F') ∧ (∀ (j : Nat) x, L[j]? = some x → L'[j]? = some x) ∧ Expl n (stepM x y) (finM p q) L' N' F')
 | 0, i, L, N, F, hV, hO, h1, h2, h3 => by omega
 | m + 1, i, L, N, F, hV, hO, h1, h2, h3 => by
  unfold meetB
  cases hs : L[i]? with
  | none =>
   have := List.getElem?_eq_none_iff.1 hs
   refine ⟨_, rfl, .inr ⟨N, F, L, rfl, fun _ _ h => h, ⟨fun j s hj => ?_, fun j s hj => ?_⟩⟩⟩
   ·exact hO.row j s (by have := yE hj; omega) hj
   ·exact hO.fin j s (by have := yE hj; omega) hj
  | some c =>
   dsimp only
   have hi := yE hs
   have hc := hV c (zE hs)
   obtain ⟨L', R, e, g1, hold, g3, g4, hlo⟩ := rowC_ent hx hy hc n 0 L (List.replicate n 0) hV om (by simp)
   rw [e]
   dsimp only
   split
   ·exact ⟨_, rfl, .inl rfl⟩
   ·rename_i hlim
    have hp : idx p c.fA = some p[c.fA.toNat]! := by
     unfold idx
     rw [if_pos hc.1.1]
     have : c.fA.toNat < p.length := by rw [hx.pl]; have := hc.1; omega
     rw [zA this, getElem!_pos p _ this]
    have hq : idx q c.fB = some q[c.fB.toNat]! := by
     unfold idx
     rw [if_pos hc.2.1]
     have : c.fB.toNat < q.length := by rw [hy.pl]; have := hc.2; omega
     rw [zA this, getElem!_pos q _ this]
    have hfin : finM p q c = (p[c.fA.toNat]! && q[c.fB.toNat]!) := by
     unfold finM
     rw [hp, hq]
     rfl
    rw [hp, hq]
    dsimp only
    rw [← hfin]
    have back : ∀ (j : Nat) x, j ≤ i → L'[j]? = some x → L[j]? = some x := fun j x hj hx => by
     have h5 : L[j]? = some L[j] := zA om
     have h6 := hold j _ h5
     rw [hx] at h6
     rw [h5, ← h6]
    have hO' : MeI x y p q n (i + 1) L' (N ++ [R]) (F ++ [finM p q c]) := by
     refine ⟨by simp [hO.nl], by simp [hO.fl], fun j x hj hx => ?_, fun j x hj hx => ?_⟩
     ·have hx0 := back j x om hx
      by_cases hji : j < i
      ·obtain ⟨row, a1, a2⟩ := hO.row j x hji hx0
       refine ⟨row, by rw [zJ (yE a1)]; exact a1, fun k hp => ?_⟩
       obtain ⟨t, a3, a4⟩ := a2 k hp
       refine ⟨t, a3, ?_⟩
       rcases a4 with h | ⟨q, c', b1, b2, b3⟩
       ·exact .inl h
       ·exact .inr ⟨q, c', b1, hold q _ b2, b3⟩
      ·have : j = i := by omega
       subst this
       rw [hs] at hx0
       cases hx0
       exact ⟨R, by rw [← hO.nl, zK (zL _), Nat.sub_self]; rfl, fun k hk => g3 k (Nat.zero_le _) om⟩
     ·have hx0 := back j x om hx
      by_cases hji : j < i
      ·rw [zJ (by rw [hO.fl]; exact hji)]
       exact hO.fin j x hji hx0
      ·have : j = i := by omega
       subst this
       rw [hs] at hx0
       cases hx0
       rw [← hO.fl, zK (zL _), Nat.sub_self]
       rfl
    obtain ⟨g, e, h5⟩ := meetB_to hx hy m (i + 1) L' (N ++ [R]) (F ++ [finM p q c]) g1 hO' om om om
    refine ⟨g, e, ?_⟩
    rcases h5 with h5 | ⟨N', F', L2, a1, a2, a3⟩
    ·exact .inl h5
    ·exact .inr ⟨N', F', L2, a1, fun j x hx => a2 j x (hold j x hx), a3⟩
theorem prod_acc (hx : TabOk n N1 x p a1) (hy : TabOk n N2 y q a2) : ∀ (w : List Nat), (∀ k ∈ w, k < n) → ∀ c, VC N1 N2 c → sacc (stepM x y) (finM p q) w c = (tacc x p w c.fA && tacc y q w c.fB)
 | [], hw, c, hc => by
  unfold sacc tacc finM idx
  rw [if_pos hc.1.1, if_pos hc.2.1, decide_eq_true hc.1.1, decide_eq_true hc.2.1, Bool.true_and, Bool.true_and]
 | k :: w, hw, c, hc => by
  have hk := hw k (zH ..)
  obtain ⟨a, r1, e1, e2, e3, e4, e5⟩ := tab_ent hx hc.1.1 hc.1.2 hk
  obtain ⟨b, r2, e6, e7, e8, e9, e10⟩ := tab_ent hy hc.2.1 hc.2.2 hk
  have hstep : stepM x y c k = if a < 0 ∨ b < 0 then none else some ⟨a, b⟩ := by unfold stepM; rw [e1, e6]
  unfold sacc tacc
  rw [hstep, e2, e7, decide_eq_true hc.1.1, decide_eq_true hc.2.1, Bool.true_and, Bool.true_and]
  dsimp only
  rw [e3, e8]
  dsimp only
  by_cases hn : a < 0 ∨ b < 0
  ·rw [if_pos hn]
   dsimp only
   rcases hn with h | h
   ·rw [tacc_neg h, Bool.false_and]
   ·rw [tacc_neg (s := b) h, Bool.and_false]
  ·rw [if_neg hn]
   dsimp only
   exact prod_acc hx hy w (fun k hk => hw k (zF _ hk)) ⟨a, b⟩ ⟨⟨by show 0 ≤ a; omega, e5⟩, by show 0 ≤ b; omega, e10⟩
end
theorem macc_st0 {n : Nat} {M : S27} (h : MOk n M) (h0 : M.fSt = 0) (w : List Nat) (s : Int) : ¬ macc M w s := by
 cases w with
 | nil =>
  rintro ⟨x, hx, _⟩
  obtain ⟨i, _, h2⟩ := h.fin x hx
  omega
 | cons k w =>
  rintro ⟨a, ha, _⟩
  obtain ⟨i, j, k, _, h2, _⟩ := h.arc a ha
  omega
theorem f29_to {n : Nat} (hn : n ≤ 300) {A B : S27} (hA : MOk n A) (hB : MOk n B) (m : Nat) (hm : 10000000 ≤ m) :
  ∃ M f, f29 m A B n = some (M, f) ∧ (f = ⟨17, -1⟩ ∨ f = ⟨0, 0⟩ ∧ MOk n M ∧ ∀ w, (∀ k ∈ w, k < n) → (macc M w 0 ↔ macc A w 0 ∧ macc B w 0)) := by
 unfold f29
 by_cases hz : A.fSt = 0 ∨ B.fSt = 0
 ·rw [if_pos hz]
  refine ⟨_, _, rfl, .inr ⟨rfl, mok_zero n, fun w _ => ⟨fun h => absurd h (macc_zero w 0), fun h => ?_⟩⟩⟩
  rcases hz with h0 | h0
  ·exact absurd h.1 (macc_st0 hA h0 w 0)
  ·exact absurd h.2 (macc_st0 hB h0 w 0)
 ·rw [if_neg hz]
  obtain ⟨N1, x, p, s1, e1, t1⟩ := f52_to hn hA
  obtain ⟨N2, y, q, s2, e2, t2⟩ := f52_to hn hB
  rw [e1, e2]
  dsimp only
  have hV : VC N1 N2 ⟨0, 0⟩ := ⟨⟨by show (0 : Int) ≤ 0; omega, by show (0 : Int) < _; omega⟩, by show (0 : Int) ≤ 0; omega, by show (0 : Int) < _; omega⟩
  obtain ⟨g, e, h⟩ := meetB_to t1 t2 20002 0 [⟨0, 0⟩] [] [] (fun c hc => by simp at hc; subst hc; exact hV) ⟨rfl, rfl, fun j s hj => absurd hj (Nat.not_lt_zero _), fun j s hj => absurd hj (Nat.not_lt_zero _)⟩ (Nat.zero_le _) (by simp) om
  have hok : ∀ N F, g = some (N, F) → OkT N F n := fun N F hg => by
   rw [hg] at e
   exact meetB_ok 20002 0 [⟨0, 0⟩] [] [] (N, F) rfl rfl (Nat.zero_le _) (by simp) (fun x hx => by simp at hx) (by simp) e
  rw [e]
  rcases h with rfl | ⟨N, F, L, rfl, h1, h2⟩
  ·exact ⟨_, _, rfl, .inl rfl⟩
  ·dsimp only [ofOne]
   obtain ⟨M, f, e3, h3⟩ := f47_to hn (hok N F rfl) m hm
   refine ⟨M, f, e3, ?_⟩
   rcases h3 with h3 | ⟨h3, h4, h5⟩
   ·exact .inl h3
   ·refine .inr ⟨h3, h4, fun w hw => ?_⟩
    rw [h5 w]
    have e4 := expl_acc h2 w hw 0 ⟨0, 0⟩ (h1 0 _ rfl)
    rw [show ((0 : Nat) : Int) = 0 from rfl] at e4
    rw [e4, prod_acc t1 t2 w hw _ hV, Bool.and_eq_true]
    have b1 := t1.acc w hw 0 om
    have b2 := t2.acc w hw 0 om
    rw [show ((0 : Nat) : Int) = 0 from rfl] at b1 b2
    rw [b1, b2]
theorem okF_17 : okF ⟨17, -1⟩ = false := rfl
theorem compL_bad (m : Nat) (ps : List S48) : ∀ (rs : List S57) (M : S27) (f : S29), okF f = false → ∃ M', compL m ps rs M f = some (M', f)
 | [], M, f, h => ⟨M, rfl⟩
 | r :: rs, M, f, h => ⟨⟨0, [], []⟩, by unfold compL; rw [h]; rfl⟩
theorem compL_to {ps : List S48} (hps : ps.length ≤ 300) (m : Nat) (hm : 10000000 ≤ m) : ∀ (rs : List S57) (M : S27), (∀ r ∈ rs, RuOk r) → MOk ps.length M →
  ∃ M' f, compL m ps rs M ⟨0, 0⟩ = some (M', f) ∧ (f = ⟨17, -1⟩ ∨ f = ⟨0, 0⟩ ∧ MOk ps.length M' ∧ ∀ w, (∀ k ∈ w, k < ps.length) → (macc M' w 0 ↔ macc M w 0 ∧ ∀ r ∈ rs, sacc (stepN r ps) (endsB r) w (Tw.start r) = true))
 | [], M, h1, h2 => ⟨M, _, rfl, .inr ⟨rfl, h2, fun w _ => by simp⟩⟩
 | r :: rs, M, h1, h2 => by
  obtain ⟨X, g, e1, h3⟩ := f28_to (h1 r (zH ..)) hps m hm
  have hrs := fun r' hr' => h1 r' (zF r hr')
  unfold compL
  rw [show okF ⟨0, 0⟩ = true from rfl, if_pos rfl, e1]
  dsimp only
  rcases h3 with rfl | ⟨rfl, h3, h4⟩
  ·rw [okF_17]
   simp only [Bool.false_eq_true, if_false]
   obtain ⟨M', e⟩ := compL_bad m ps rs M ⟨17, -1⟩ okF_17
   exact ⟨M', _, e, .inl rfl⟩
  ·rw [show okF ⟨0, 0⟩ = true from rfl, if_pos rfl]
   obtain ⟨M1, g1, e2, h5⟩ := f29_to hps h2 h3 m hm
   rw [e2]
   dsimp only
   rcases h5 with rfl | ⟨rfl, h5, h6⟩
   ·obtain ⟨M', e⟩ := compL_bad m ps rs M1 ⟨17, -1⟩ okF_17
    exact ⟨M', _, e, .inl rfl⟩
   ·obtain ⟨M', f, e3, h7⟩ := compL_to hps m hm rs M1 hrs h5
    refine ⟨M', f, e3, ?_⟩
    rcases h7 with h7 | ⟨h7, h8, h9⟩
    ·exact .inl h7
    ·refine .inr ⟨h7, h8, fun w hw => ?_⟩
     rw [h9 w hw, h6 w hw, h4 w hw, and_assoc]
     simp
end Go.Abs.Pl
