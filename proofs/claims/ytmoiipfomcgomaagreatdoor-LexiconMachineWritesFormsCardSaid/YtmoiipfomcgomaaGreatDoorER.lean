import Derived.Test.YtmoiipfomcgomaaGreatDoorCP6
import Derived.Test.YtmoiipfomcgomaaGreatDoorGC
import Derived.Test.YtmoiipfomcgomaaGreatDoorLP4
import Derived.Test.YtmoiipfomcgomaaGreatDoorWLaw
namespace Go.Abs
set_option linter.unusedVariables false
set_option maxRecDepth 100000
abbrev Ps : Type := Nat × S57 × Int
def posI (T : List ByteArray) (i : Nat) : List S57 → Int → List Ps
 | [], _ => []
 | x :: r, S => (i, x, S) :: posI T i r (S + nI T x - 1)
def endI (T : List ByteArray) : List S57 → Int → Int
 | [], S => S
 | x :: r, S => endI T r (S + nI T x - 1)
def posC (T : List ByteArray) : Nat → List S55 → Int → List Ps
 | _, [], _ => []
 | i, c :: r, S => posI T i c.fItems S ++ posC T (i + 1) r (endI T c.fItems S)
def endC (T : List ByteArray) : List S55 → Int → Int
 | [], S => S
 | c :: r, S => endC T r (endI T c.fItems S)
def arcsP (T : List ByteArray) (N : Int) (p : Ps) : List S61 := arcsN (p.1 : Int) p.2.2 (toN N p.2.1) p.2.1.fWeight (inI T p.2.1) (ptsI p.2.1.fForm)
theorem foldI_pos (T : List ByteArray) (N : Int) (i : Nat) : ∀ (xs : List S57) (S : Int) (A : List S61), foldI T N (i : Int) xs (S, A) = (endI T xs S, A ++ (posI T i xs S).flatMap (arcsP T N))
 | [], S, A => by simp [foldI, endI, posI]
 | x :: r, S, A => by
  show foldI T N (i : Int) r (S + nI T x - 1, A ++ arcsN (i : Int) S (toN N x) x.fWeight (inI T x) (ptsI x.fForm)) = _
  rw [foldI_pos T N i r]
  simp only [endI, posI, List.flatMap_cons, List.append_assoc]
  rfl
theorem foldC_pos (T : List ByteArray) (N : Int) : ∀ (cs : List S55) (i : Nat) (S : Int) (A : List S61), foldC T N i cs (S, A) = (endC T cs S, A ++ (posC T i cs S).flatMap (arcsP T N))
 | [], i, S, A => by simp [foldC, endC, posC]
 | c :: r, i, S, A => by
  show foldC T N (i + 1) r (foldI T N (i : Int) c.fItems (S, A)) = _
  rw [foldI_pos, foldC_pos T N r]
  simp only [endC, posC, List.flatMap_append, List.append_assoc]
theorem nI_pos (T : List ByteArray) (x : S57) : 1 ≤ nI T x := by unfold nI stepsN; omega
theorem form_nI (T : List ByteArray) (x : S57) : (ptsI x.fForm).length ≤ nI T x := by unfold nI stepsN; omega
theorem endI_le (T : List ByteArray) : ∀ (xs : List S57) (S : Int), S ≤ endI T xs S
 | [], S => Int.le_refl _
 | x :: r, S => by
  have h1 := endI_le T r (S + nI T x - 1)
  have h2 := nI_pos T x
  show S ≤ endI T r (S + nI T x - 1)
  omega
theorem posI_mem (T : List ByteArray) (i : Nat) : ∀ (xs : List S57) (S : Int), ∀ p ∈ posI T i xs S, p.1 = i ∧ p.2.1 ∈ xs ∧ S ≤ p.2.2 ∧ p.2.2 + nI T p.2.1 - 1 ≤ endI T xs S
 | [], S, p, hp => by cases hp
 | x :: r, S, p, hp => by
  have hn := nI_pos T x
  rcases List.mem_cons.1 hp with rfl | hp
  ·exact ⟨rfl, List.mem_cons_self, Int.le_refl _, endI_le T r _⟩
  ·obtain ⟨h1, h2, h3, h4⟩ := posI_mem T i r (S + nI T x - 1) p hp
   exact ⟨h1, List.mem_cons_of_mem _ h2, by omega, h4⟩
theorem posI_of (T : List ByteArray) (i : Nat) : ∀ (xs : List S57) (S : Int), ∀ x ∈ xs, ∃ S', (i, x, S') ∈ posI T i xs S
 | [], S, x, hx => by cases hx
 | y :: r, S, x, hx => by
  rcases List.mem_cons.1 hx with rfl | hx
  ·exact ⟨S, List.mem_cons_self⟩
  ·obtain ⟨S', h⟩ := posI_of T i r (S + nI T y - 1) x hx
   exact ⟨S', List.mem_cons_of_mem _ h⟩
def Bef (T : List ByteArray) (p q : Ps) : Prop := p.2.2 + nI T p.2.1 - 1 ≤ q.2.2
theorem posI_ord (T : List ByteArray) (i : Nat) : ∀ (xs : List S57) (S : Int), (posI T i xs S).Pairwise (Bef T)
 | [], S => List.Pairwise.nil
 | x :: r, S => List.Pairwise.cons (fun q hq => (posI_mem T i r _ q hq).2.2.1) (posI_ord T i r _)
theorem posC_mem (T : List ByteArray) : ∀ (cs : List S55) (i : Nat) (S : Int), ∀ p ∈ posC T i cs S, S ≤ p.2.2 ∧ ∃ j c, cs[j]? = some c ∧ p.1 = i + j ∧ p.2.1 ∈ c.fItems
 | [], i, S, p, hp => by cases hp
 | c :: r, i, S, p, hp => by
  rcases List.mem_append.1 hp with hp | hp
  ·obtain ⟨h1, h2, h3, _⟩ := posI_mem T i c.fItems S p hp
   exact ⟨h3, 0, c, rfl, h1, h2⟩
  ·obtain ⟨h1, j, d, h2, h3, h4⟩ := posC_mem T r (i + 1) _ p hp
   exact ⟨Int.le_trans (endI_le T c.fItems S) h1, j + 1, d, h2, by omega, h4⟩
theorem posC_of (T : List ByteArray) : ∀ (cs : List S55) (i : Nat) (S : Int) (j : Nat) (c : S55), cs[j]? = some c → ∀ x ∈ c.fItems, ∃ S', (i + j, x, S') ∈ posC T i cs S
 | [], i, S, j, c, h, x, hx => by cases h
 | d :: r, i, S, 0, c, h, x, hx => by
  cases h
  obtain ⟨S', h⟩ := posI_of T i d.fItems S x hx
  exact ⟨S', List.mem_append_left _ h⟩
 | d :: r, i, S, j + 1, c, h, x, hx => by
  obtain ⟨S', h⟩ := posC_of T r (i + 1) (endI T d.fItems S) j c h x hx
  rw [show i + 1 + j = i + (j + 1) by omega] at h
  exact ⟨S', List.mem_append_right _ h⟩
theorem posC_ord (T : List ByteArray) : ∀ (cs : List S55) (i : Nat) (S : Int), (posC T i cs S).Pairwise (Bef T)
 | [], i, S => List.Pairwise.nil
 | c :: r, i, S => List.pairwise_append.2 ⟨posI_ord T i c.fItems S, posC_ord T r (i + 1) _, fun p hp q hq => by
   have h1 := (posI_mem T i c.fItems S p hp).2.2.2
   have h2 := (posC_mem T r (i + 1) _ q hq).1
   exact Int.le_trans h1 h2⟩
def blkP (T : List ByteArray) (N : Nat) (p : Ps) : Blk := ⟨p.1, p.2.2.toNat, (toN (N : Int) p.2.1).toNat, nI T p.2.1, fun k => (ptsI p.2.1.fForm)[k]?.getD 0⟩
def ArO (arcs : List S61) (s : Nat) (x : Int) (t : Nat) : Prop := ∃ a ∈ arcs, a.fFrom.toNat = s ∧ a.fOut = x ∧ a.fTo.toNat = t
theorem arcP_at (T : List ByteArray) (N : Nat) (p : Ps) (hS : 0 ≤ p.2.2) (k : Nat) (hk : k < nI T p.2.1) :
  (arcN (p.1 : Int) p.2.2 (toN (N : Int) p.2.1) p.2.1.fWeight (inI T p.2.1) (ptsI p.2.1.fForm) k).fFrom.toNat = (if k = 0 then (blkP T N p).i else (blkP T N p).S + k - 1) ∧
  (arcN (p.1 : Int) p.2.2 (toN (N : Int) p.2.1) p.2.1.fWeight (inI T p.2.1) (ptsI p.2.1.fForm) k).fOut = (blkP T N p).o k ∧
  (arcN (p.1 : Int) p.2.2 (toN (N : Int) p.2.1) p.2.1.fWeight (inI T p.2.1) (ptsI p.2.1.fForm) k).fTo.toNat = (if k + 1 < (blkP T N p).n then (blkP T N p).S + k else (blkP T N p).t) := by
 refine ⟨?_, rfl, ?_⟩
 ·show (if k = 0 then (p.1 : Int) else p.2.2 + k - 1).toNat = if k = 0 then p.1 else p.2.2.toNat + k - 1
  split <;> omega
 ·show (if k + 1 < stepsN (inI T p.2.1) (ptsI p.2.1.fForm) then p.2.2 + (k : Int) else toN (N : Int) p.2.1).toNat = if k + 1 < nI T p.2.1 then p.2.2.toNat + k else (toN (N : Int) p.2.1).toNat
  show (if k + 1 < nI T p.2.1 then p.2.2 + (k : Int) else toN (N : Int) p.2.1).toNat = _
  split <;> omega
theorem bks_lex (T : List ByteArray) (l : List S55) (arcs : List S61) (ha : ∀ a, a ∈ arcs ↔ a ∈ (posC T 0 l ((l.length : Int) + 1)).flatMap (arcsP T (l.length : Int))) (hn : ∀ c ∈ l, ∀ x ∈ c.fItems, x.fNext < l.length) :
  Bks l.length ((posC T 0 l ((l.length : Int) + 1)).map (blkP T l.length)) (ArO arcs) := by
 have pos : ∀ p ∈ posC T 0 l ((l.length : Int) + 1), (l.length : Int) + 1 ≤ p.2.2 ∧ p.1 < l.length ∧ p.2.1.fNext < l.length := by
  intro p hp
  obtain ⟨h1, j, c, h2, h3, h4⟩ := posC_mem T l 0 _ p hp
  have hj := (List.getElem?_eq_some_iff.1 h2).1
  exact ⟨h1, by omega, hn c (List.mem_of_getElem? h2) _ h4⟩
 refine ⟨fun s x t => ?_, ?_, ?_, ?_, ?_, ?_⟩
 ·unfold ArO
  constructor
  ·rintro ⟨a, h, rfl, rfl, rfl⟩
   obtain ⟨p, hp, hpa⟩ := List.mem_flatMap.1 ((ha a).1 h)
   obtain ⟨k, hk, rfl⟩ := List.mem_map.1 hpa
   have hk : k < nI T p.2.1 := List.mem_range.1 hk
   have hS := (pos p hp).1
   obtain ⟨e1, e2, e3⟩ := arcP_at T l.length p (by omega) k hk
   exact ⟨blkP T l.length p, List.mem_map_of_mem hp, k, hk, e1, e2, e3⟩
  ·rintro ⟨b, hb, k, hk, hs, hx, ht⟩
   obtain ⟨p, hp, rfl⟩ := List.mem_map.1 hb
   have hS := (pos p hp).1
   obtain ⟨e1, e2, e3⟩ := arcP_at T l.length p (by omega) k hk
   exact ⟨_, (ha _).2 (List.mem_flatMap.2 ⟨p, hp, List.mem_map.2 ⟨k, List.mem_range.2 hk, rfl⟩⟩), e1.trans hs.symm, e2.trans hx.symm, e3.trans ht.symm⟩
 ·intro b hb
  obtain ⟨p, hp, rfl⟩ := List.mem_map.1 hb
  exact (pos p hp).2.1
 ·intro b hb
  obtain ⟨p, hp, rfl⟩ := List.mem_map.1 hb
  have := (pos p hp).1
  show l.length < p.2.2.toNat
  omega
 ·intro b hb
  obtain ⟨p, hp, rfl⟩ := List.mem_map.1 hb
  have := (pos p hp).2.2
  show (toN (l.length : Int) p.2.1).toNat ≤ l.length
  unfold toN
  split <;> omega
 ·intro b hb
  obtain ⟨p, hp, rfl⟩ := List.mem_map.1 hb
  exact nI_pos T p.2.1
 ·intro b hb c hc k j hk hj e
  obtain ⟨p, hp, rfl⟩ := List.mem_map.1 hb
  obtain ⟨q, hq, rfl⟩ := List.mem_map.1 hc
  have h1 := (pos p hp).1
  have h2 := (pos q hq).1
  have e : p.2.2.toNat + k = q.2.2.toNat + j := e
  have hk : k + 1 < nI T p.2.1 := hk
  have hj : j + 1 < nI T q.2.1 := hj
  have ord := List.pairwise_iff_getElem.1 (posC_ord T l 0 ((l.length : Int) + 1))
  obtain ⟨a, ha1, ha2⟩ := List.getElem_of_mem hp
  obtain ⟨b, hb1, hb2⟩ := List.getElem_of_mem hq
  rcases Nat.lt_trichotomy a b with g | g | g
  ·have := ord a b ha1 hb1 g
   rw [ha2, hb2] at this
   unfold Bef at this
   omega
  ·subst g
   rw [ha2] at hb2
   subst hb2
   exact ⟨rfl, by omega⟩
  ·have := ord b a hb1 ha1 g
   rw [ha2, hb2] at this
   unfold Bef at this
   omega
open En
theorem ptsS_cat {a b : ByteArray} {La Lb : List Nat} (ha : ptsS a = some La) (hb : ptsS b = some Lb) : ptsS (a ++ b) = some (La ++ Lb) := by
 unfold ptsS at *
 rw [bytN_cat]
 exact ptsB_cat _ _ _ _ _ (Nat.le_refl _) ha hb
structure OkF (l : List S55) : Prop where
 next : ∀ c ∈ l, ∀ x ∈ c.fItems, -1 ≤ x.fNext ∧ x.fNext < l.length
 form : ∀ c ∈ l, ∀ x ∈ c.fItems, ∃ L, ptsS x.fForm = some L ∧ ptsI x.fForm = castL L ∧ ∀ p ∈ L, p ≠ 0
def posL (l : List S55) : List Ps := posC (tagsL l) 0 l ((l.length : Int) + 1)
def bksL (l : List S55) : List Blk := (posL l).map (blkP (tagsL l) l.length)
theorem castL_ne {L : List Nat} (h : ∀ p ∈ L, p ≠ 0) : ∀ x ∈ castL L, x ≠ 0 := fun x hx => by
 obtain ⟨p, hp, rfl⟩ := List.mem_map.1 hx
 have := h p hp
 omega
theorem outs_form {l : List S55} (ho : OkF l) {p : Ps} (hp : p ∈ posL l) : ∃ L, ptsS p.2.1.fForm = some L ∧ outs (blkP (tagsL l) l.length p) = castL L := by
 obtain ⟨_, j, c, h2, _, h4⟩ := posC_mem (tagsL l) l 0 _ p hp
 obtain ⟨L, g1, g2, g3⟩ := ho.form c (List.mem_of_getElem? h2) _ h4
 refine ⟨L, g1, ?_⟩
 have h := one_map (ptsI p.2.1.fForm) (nI (tagsL l) p.2.1) (form_nI _ _) (by rw [g2]; exact castL_ne g3)
 rw [g2] at h
 unfold outs outsF
 show ((List.range (nI (tagsL l) p.2.1 - 0)).flatMap fun j => one ((ptsI p.2.1.fForm)[0 + j]?.getD 0)) = castL L
 rw [Nat.sub_zero, g2]
 simp only [Nat.zero_add]
 exact h
theorem castL_app (a b : List Nat) : castL (a ++ b) = castL a ++ castL b := by unfold castL; rw [List.map_append]
theorem chn_rch {l : List S55} (ho : OkF l) {c : Nat} {w : List Int} {m : Nat} (h : Chn l.length (bksL l) c w m) : ∀ k, m ≤ k → ∀ (e : S40) (Le : List Nat), ptsS e.fForm = some Le → ∃ z Lw, Rch l k (c : Int) e z ∧ ptsS z.fForm = some (Le ++ Lw) ∧ castL Lw = w := by
 induction h with
 | @last b hb ht =>
  intro k hk e Le he
  obtain ⟨p, hp, rfl⟩ := List.mem_map.1 hb
  obtain ⟨_, j, cl, h2, h3, h4⟩ := posC_mem (tagsL l) l 0 _ p hp
  obtain ⟨L, g1, g2⟩ := outs_form ho hp
  obtain ⟨k, rfl⟩ : ∃ q, k = q + 1 := ⟨k - 1, by omega⟩
  have hn := ho.next cl (List.mem_of_getElem? h2) _ h4
  have ht : (toN (l.length : Int) p.2.1).toNat = l.length := ht
  refine ⟨stepE e p.2.1, L, ⟨cl, ?_, p.2.1, h4, .inl ⟨?_, rfl⟩⟩, ptsS_cat he g1, g2.symm⟩
  ·show idx l ((p.1 : Nat) : Int) = some cl
   rw [h3, Nat.zero_add]
   simp [idx, h2]
  ·unfold toN at ht
   split at ht <;> omega
 | @more b w m hb ht _ ih =>
  intro k hk e Le he
  obtain ⟨p, hp, rfl⟩ := List.mem_map.1 hb
  obtain ⟨_, j, cl, h2, h3, h4⟩ := posC_mem (tagsL l) l 0 _ p hp
  obtain ⟨L, g1, g2⟩ := outs_form ho hp
  obtain ⟨k, rfl⟩ : ∃ q, k = q + 1 := ⟨k - 1, by omega⟩
  have hn := ho.next cl (List.mem_of_getElem? h2) _ h4
  obtain ⟨z, Lw, r1, r2, r3⟩ := ih k (by omega) (stepE e p.2.1) (Le ++ L) (ptsS_cat he g1)
  have ht : (toN (l.length : Int) p.2.1).toNat < l.length := ht
  have htn : 0 ≤ p.2.1.fNext ∧ ((toN (l.length : Int) p.2.1).toNat : Int) = p.2.1.fNext := by
   unfold toN at ht ⊢
   split at ht <;> split <;> omega
  have r1 : Rch l k (((toN (l.length : Int) p.2.1).toNat : Nat) : Int) (stepE e p.2.1) z := r1
  rw [htn.2] at r1
  refine ⟨z, L ++ Lw, ⟨cl, ?_, p.2.1, h4, .inr ⟨htn.1, r1⟩⟩, by rw [r2, List.append_assoc], by rw [castL_app, r3, g2]⟩
  show idx l ((p.1 : Nat) : Int) = some cl
  rw [h3, Nat.zero_add]
  simp [idx, h2]
theorem rch_chn {l : List S55} (ho : OkF l) : ∀ (k c : Nat) (e z : S40) (Le : List Nat), ptsS e.fForm = some Le → Rch l k (c : Int) e z → ∃ m w Lw, m ≤ k ∧ Chn l.length (bksL l) c w m ∧ ptsS z.fForm = some (Le ++ Lw) ∧ castL Lw = w
 | 0, _, _, _, _, _, h => h.elim
 | k + 1, c, e, z, Le, he, ⟨cl, hc, x, hx, hz⟩ => by
  have hcl : l[c]? = some cl := by
   unfold idx at hc
   rw [if_pos (by omega), Int.toNat_natCast] at hc
   exact hc
  obtain ⟨S', hp⟩ := posC_of (tagsL l) l 0 ((l.length : Int) + 1) c cl hcl x hx
  rw [Nat.zero_add] at hp
  have hp : ((c, x, S') : Ps) ∈ posL l := hp
  have hb : blkP (tagsL l) l.length (c, x, S') ∈ bksL l := List.mem_map_of_mem hp
  obtain ⟨L, g1, g2⟩ := outs_form ho hp
  have hn := ho.next cl (List.mem_of_getElem? hcl) x hx
  have g1 : ptsS x.fForm = some L := g1
  rcases hz with ⟨hz, rfl⟩ | ⟨hz, hr⟩
  ·have ht : (blkP (tagsL l) l.length (c, x, S')).t = l.length := by
    show (toN (l.length : Int) x).toNat = l.length
    unfold toN
    rw [if_neg (by omega)]
    omega
   exact ⟨1, _, L, by omega, .last hb ht, ptsS_cat he g1, g2.symm⟩
  ·have htn : ((blkP (tagsL l) l.length (c, x, S')).t : Int) = x.fNext := by
    show (((toN (l.length : Int) x).toNat : Nat) : Int) = x.fNext
    unfold toN
    rw [if_pos (by omega)]
    omega
   rw [← htn] at hr
   obtain ⟨m, w, Lw, h1, h2, h3, h4⟩ := rch_chn ho k (blkP (tagsL l) l.length (c, x, S')).t (stepE e x) z (Le ++ L) (ptsS_cat he g1) hr
   exact ⟨m + 1, _, L ++ Lw, by omega, .more hb (by omega) h2, by rw [h3, List.append_assoc], by rw [castL_app, h4, g2]⟩
open Go.Sort Go.Proofs
theorem goA_strict : ∀ (r : List S61) (p : S61), (p :: r).Pairwise (fun a b => ltOf cmpA b a = false) → (p :: goC p r).Pairwise (fun a b => cmpA a b < 0) ∧ ∀ z, z ∈ p :: goC p r ↔ z ∈ p :: r
 | [], p, _ => ⟨by simp [goC], fun z => by simp [goC]⟩
 | y :: r, p, h => by
  by_cases hc : eqA y p = true
  ·have hg : goC p (y :: r) = goC y r := by simp [goC, hc]
   obtain rfl := eqA_iff.1 hc
   rw [hg]
   obtain ⟨h1, h2⟩ := goA_strict r y (List.pairwise_cons.1 h).2
   refine ⟨h1, fun z => ?_⟩
   rw [h2 z]
   simp
  ·have hg : goC p (y :: r) = y :: goC y r := by simp [goC, hc]
   rw [hg]
   obtain ⟨h1, h2⟩ := goA_strict r y (List.pairwise_cons.1 h).2
   have hp := (List.pairwise_cons.1 h).1
   have hlt : cmpA p y < 0 := by
    have h3 := TO.lt_false (c := cmpA) y p |>.1 (hp y List.mem_cons_self)
    have h4 : cmpA y p ≠ 0 := fun h0 => hc (eqA_iff.2 ((toA.eq y p).1 h0))
    exact (toA.sw p y).2 (by omega)
   refine ⟨List.pairwise_cons.2 ⟨fun z hz => ?_, h1⟩, fun z => ?_⟩
   ·rcases List.mem_cons.1 hz with rfl | hz'
    ·exact hlt
    ·exact toA.tr p y z hlt ((List.pairwise_cons.1 h1).1 z hz')
   ·rw [List.mem_cons, h2 z, List.mem_cons (a := z) (b := p)]
theorem compactA_strict {l : List S61} (h : l.Pairwise (fun a b => ltOf cmpA b a = false)) : (compactL l).Pairwise (fun a b => cmpA a b < 0) ∧ ∀ z, z ∈ compactL l ↔ z ∈ l := by
 cases l with
 | nil => exact ⟨List.Pairwise.nil, fun z => Iff.rfl⟩
 | cons p r => exact goA_strict r p h
theorem f69_eq (m : Nat) (x lo hi : Int) (h : lo ≤ x ∧ x ≤ hi) : f69 m x lo hi = some true := by
 unfold f69 f69_r1
 rw [decide_eq_true (by omega : x ≥ lo), decide_eq_true (by omega : x ≤ hi)]; rfl
theorem scan_unit {α R : Type} : ∀ (l : List α) (i : Int), scan (R := R) (fun _ (_ : Unit) (_ : α) => some (.inr ())) i () l = some (.inr ())
 | [], i => rfl
 | x :: r, i => by simp only [scan]; exact scan_unit r (i + 1)
structure ArcOk (N : Int) (a : S61) : Prop where
 from' : 0 ≤ a.fFrom ∧ a.fFrom ≤ N - 1
 to' : 0 ≤ a.fTo ∧ a.fTo ≤ N - 1
 in' : 0 ≤ a.fIn ∧ a.fIn ≤ 1114111
 out : 0 ≤ a.fOut ∧ a.fOut ≤ 1114111
 weight : 0 ≤ a.fWeight ∧ a.fWeight ≤ 1000000
theorem loopA45 (m : Nat) (M : S29) (hst : 1 ≤ M.fStates ∧ M.fStates ≤ 400) (hl : M.fArcs.length ≤ 2000) (ha : ∀ a ∈ M.fArcs, ArcOk M.fStates a) (ho : M.fArcs.Pairwise (fun a b => cmpA a b < 0)) (hm : 3000 ≤ m) :
  iter (fun (y : Int) => f45_B6 m M y) m 0 = some (.inr (M.fArcs.length : Int)) := by
 have hw : w64 (M.fStates - 1) = M.fStates - 1 := w64_id ⟨by omega, by omega⟩
 have e := iter_scan M.fArcs (fun (y : Int) => f45_B6 m M y) (fun (_ : Unit) (i : Int) => i) (fun (_ : Int) (_ : Unit) (_ : S61) => some (.inr ())) (fun s i hi => by
  show f45_B6 m M (i : Int) = _
  unfold f45_B6
  refine body_turn rfl fun a hx => ?_
  have hi := lt_of_getElem? hx
  obtain ⟨h1, h2, h3, h4, h5⟩ := ha a (List.mem_of_getElem? hx)
  have hw1 : w64 ((i : Int) + 1) = (i : Int) + 1 := w64_id ⟨by omega, by omega⟩
  rw [hw, f69_eq m _ _ _ h1, bnd_some', Bool.not_true, cnd_false, f69_eq m _ _ _ h2, bnd_some', bnd_some', Bool.not_true]
  unfold f45_r5
  rw [cnd_false, f69_eq m _ _ _ h3, bnd_some', bnd_some', Bool.not_true]
  unfold f45_r4
  rw [cnd_false, f69_eq m _ _ _ h4, bnd_some', bnd_some', Bool.not_true]
  unfold f45_r3
  rw [cnd_false, f69_eq m _ _ _ h5, bnd_some', bnd_some', Bool.not_true]
  unfold f45_r2
  rw [cnd_false]
  have hlast : (cnd (decide ((i : Int) > 0)) (bnd (idx M.fArcs (w64 ((i : Int) - 1))) fun v198 => bnd (f20 m v198 a) fun v199 => some (decide (v199 ≥ 0))) (some false)) = some false := by
   by_cases h0 : i = 0
   ·subst h0; rfl
   ·rw [decide_eq_true (by omega), cnd_true]
    have hw2 : w64 ((i : Int) - 1) = ((i - 1 : Nat) : Int) := by rw [w64_id ⟨by omega, by omega⟩]; omega
    have hlt : i - 1 < M.fArcs.length := by omega
    have hb : M.fArcs[i - 1]? = some (M.fArcs[i - 1]'hlt) := List.getElem?_eq_getElem hlt
    rw [hw2, idx_get, hb, bnd_some', f20_eq m _ _ (by omega), bnd_some']
    have hc := List.pairwise_iff_getElem.1 ho (i - 1) i hlt hi (by omega)
    have : M.fArcs[i]'hi = a := by rw [List.getElem?_eq_getElem hi] at hx; exact Option.some.inj hx
    rw [this] at hc
    rw [decide_eq_false (by omega)]
  rw [hlast, bnd_some']
  unfold f45_r1
  rw [cnd_false, hw1]) m 0 () (by omega) (by omega)
 rw [List.drop_zero, scan_unit] at e
 exact e
theorem loopF45 (m : Nat) (M : S29) (s : Int) (hf : M.fFinals = [⟨s, 0⟩]) (hst : 1 ≤ M.fStates ∧ M.fStates ≤ 400) (hs : 0 ≤ s ∧ s ≤ M.fStates - 1) (hm : 3000 ≤ m) :
  iter (fun (y : Int) => f45_B9 m M y) m 0 = some (.inr 1) := by
 have hw : w64 (M.fStates - 1) = M.fStates - 1 := w64_id ⟨by omega, by omega⟩
 have e := iter_scan M.fFinals (fun (y : Int) => f45_B9 m M y) (fun (_ : Unit) (i : Int) => i) (fun (_ : Int) (_ : Unit) (_ : S52) => some (.inr ())) (fun u i hi => by
  show f45_B9 m M (i : Int) = _
  unfold f45_B9
  refine body_turn rfl fun a hx => ?_
  have hi := lt_of_getElem? hx
  rw [hf] at hi
  have hi0 : i = 0 := by simp at hi; omega
  subst hi0
  rw [hf] at hx
  obtain rfl := Option.some.inj hx
  rw [hw, f69_eq m _ _ _ hs, bnd_some', Bool.not_true, cnd_false, f69_eq m _ _ _ (by show (0 : Int) ≤ 0 ∧ (0 : Int) ≤ 1000000; omega), bnd_some', bnd_some', Bool.not_true]
  unfold f45_r8
  rw [cnd_false]
  have hd : decide (((0 : Nat) : Int) > 0) = false := rfl
  rw [hd, cnd_false, bnd_some']
  unfold f45_r7
  rw [cnd_false]
  rfl) m 0 () (by omega) (by rw [hf]; simp only [List.length_cons, List.length_nil]; omega)
 rw [List.drop_zero, scan_unit, hf] at e
 exact e
theorem f45_ok (m : Nat) (M : S29) (s : Int) (hf : M.fFinals = [⟨s, 0⟩]) (hst : 1 ≤ M.fStates ∧ M.fStates ≤ 400) (hs : 0 ≤ s ∧ s ≤ M.fStates - 1) (hl : M.fArcs.length ≤ 2000) (ha : ∀ a ∈ M.fArcs, ArcOk M.fStates a) (ho : M.fArcs.Pairwise (fun a b => cmpA a b < 0)) (hm : 3000 ≤ m) : f45 m M = some ⟨0, 0⟩ := by
 unfold f45
 rw [f69_eq m _ _ _ (by omega), bnd_some', Bool.not_true, cnd_false, decide_eq_false (by omega), cnd_false, loopA45 m M hst hl ha ho hm, brk_inr, loopF45 m M s hf hst hs hm, brk_inr]
theorem endC_le (T : List ByteArray) : ∀ (cs : List S55) (S : Int), S ≤ endC T cs S
 | [], S => Int.le_refl _
 | c :: r, S => Int.le_trans (endI_le T c.fItems S) (endC_le T r _)
theorem posC_hi (T : List ByteArray) : ∀ (cs : List S55) (i : Nat) (S : Int), ∀ p ∈ posC T i cs S, p.2.2 + nI T p.2.1 - 1 ≤ endC T cs S
 | [], i, S, p, hp => by cases hp
 | c :: r, i, S, p, hp => by
  rcases List.mem_append.1 hp with h | h
  ·exact Int.le_trans (posI_mem T i c.fItems S p h).2.2.2 (endC_le T r _)
  ·exact posC_hi T r (i + 1) _ p h
theorem arcsL_pos (l : List S55) : arcsL l = (endC (tagsL l) l ((l.length : Int) + 1), (posL l).flatMap (arcsP (tagsL l) (l.length : Int))) := by
 unfold arcsL posL
 rw [foldC_pos]
 simp
theorem pts_ok {s : ByteArray} (h : partS s = true) : ∃ L, ptsS s = some L ∧ ptsI s = castL L ∧ L.length ≤ 30 ∧ ∀ p ∈ L, p ≠ 0 ∧ p < 983040 := by
 obtain ⟨L, h1, h2, _, h4⟩ := partS_spec h
 refine ⟨L, h1, by unfold ptsI; rw [h1]; rfl, h2, fun p hp => ?_⟩
 have h := h4 p hp
 unfold badP at h
 rw [Bool.or_eq_false_iff] at h
 have h5 := of_decide_eq_false h.2
 refine ⟨fun h0 => ?_, by omega⟩
 subst h0
 cases h.1
theorem getD_bd {l : List Int} {hi : Int} (h0 : 0 ≤ hi) (h : ∀ x ∈ l, 0 ≤ x ∧ x ≤ hi) (k : Nat) : 0 ≤ l[k]?.getD 0 ∧ l[k]?.getD 0 ≤ hi := by
 cases hk : l[k]? with
 | none => exact ⟨Int.le_refl _, h0⟩
 | some x => exact h x (List.mem_of_getElem? hk)
theorem pts_bd {s : ByteArray} (h : partS s = true) : ∀ x ∈ ptsI s, 0 ≤ x ∧ x ≤ 1114111 := by
 obtain ⟨L, _, h2, _, h4⟩ := pts_ok h
 rw [h2]
 intro x hx
 obtain ⟨p, hp, rfl⟩ := List.mem_map.1 hx
 have := (h4 p hp).2
 omega
theorem in_bd {T : List ByteArray} {n : Nat} {x : S57} (hx : OkI n x) (hT : T.length ≤ 16000) : ∀ y ∈ inI T x, 0 ≤ y ∧ y ≤ 1114111 := by
 intro y hy
 rcases List.mem_append.1 hy with h | h
 ·exact pts_bd hx.base y h
 ·obtain ⟨t, _, rfl⟩ := List.mem_map.1 h
  have := atS_le t T
  show (0 : Int) ≤ 983040 + (atS t T : Int) ∧ 983040 + (atS t T : Int) ≤ 1114111
  omega
theorem arc_ok {l : List S55} (ho : OkL l) {a : S61} (ha : a ∈ (arcsL l).2) : ArcOk (arcsL l).1 a := by
 rw [arcsL_pos] at ha ⊢
 obtain ⟨p, hp, hpa⟩ := List.mem_flatMap.1 ha
 obtain ⟨k, hk, rfl⟩ := List.mem_map.1 hpa
 have hk : k < nI (tagsL l) p.2.1 := List.mem_range.1 hk
 obtain ⟨h1, j, c, h2, h3, h4⟩ := posC_mem (tagsL l) l 0 _ p hp
 have hj := (List.getElem?_eq_some_iff.1 h2).1
 have hx := ho.okI c (List.mem_of_getElem? h2) _ h4
 have hhi := posC_hi (tagsL l) l 0 _ p hp
 have hE : (l.length : Int) + 1 ≤ endC (tagsL l) l ((l.length : Int) + 1) := endC_le _ _ _
 have hn := hx.next
 have hN := hx.weight
 show ArcOk (endC (tagsL l) l ((l.length : Int) + 1)) _
 generalize endC (tagsL l) l ((l.length : Int) + 1) = E at hhi hE
 refine ⟨?_, ?_, getD_bd (by omega) (in_bd hx (tagsL_len ho)) k, getD_bd (by omega) (pts_bd hx.form) k, ?_⟩
 ·show 0 ≤ (if k = 0 then (p.1 : Int) else p.2.2 + k - 1) ∧ (if k = 0 then (p.1 : Int) else p.2.2 + k - 1) ≤ E - 1
  split <;> omega
 ·show 0 ≤ (if k + 1 < nI (tagsL l) p.2.1 then p.2.2 + (k : Int) else toN (l.length : Int) p.2.1) ∧ (if k + 1 < nI (tagsL l) p.2.1 then p.2.2 + (k : Int) else toN (l.length : Int) p.2.1) ≤ E - 1
  unfold toN
  split
  ·omega
  ·split <;> omega
 ·show 0 ≤ (if k = 0 then p.2.1.fWeight else 0) ∧ (if k = 0 then p.2.1.fWeight else 0) ≤ 1000000
  split <;> omega
theorem machL_ok {l : List S55} (h : (machL l).2 = ⟨0, 0⟩) : OkL l ∧ lexF l = ⟨0, 0⟩ ∧ (arcsL l).1 ≤ 400 ∧ (machL l).1 = ⟨(arcsL l).1, compactL (srtC cmpA (arcsL l).2), [⟨(l.length : Int), 0⟩]⟩ ∧ (compactL (srtC cmpA (arcsL l).2)).length ≤ 2000 := by
 unfold machL at h ⊢
 split at h
 ·rename_i hc
  have h : lexF l = ⟨0, 0⟩ := h
  rw [h] at hc
  exact absurd rfl hc
 ·rename_i hc
  have hc : (lexF l).fCode = 0 := by
   rcases Classical.em ((lexF l).fCode = 0) with g | g
   ·exact g
   ·exact absurd g hc
  rw [if_neg (by simpa using hc)]
  split at h
  ·cases h
  ·rename_i h1
   rw [if_neg h1]
   split at h
   ·cases h
   ·rename_i h2
    rw [if_neg h2]
    obtain ⟨g1, g2⟩ := lexF_ok hc
    exact ⟨g1, g2, by omega, rfl, by omega⟩
theorem machL_valid {l : List S55} (h : (machL l).2 = ⟨0, 0⟩) (m : Nat) (hm : 3000 ≤ m) : f45 m (machL l).1 = some ⟨0, 0⟩ := by
 obtain ⟨h1, _, h3, h4, h5⟩ := machL_ok h
 obtain ⟨c1, c2⟩ := compactA_strict (srtC_sorted toA (arcsL l).2)
 have hE : (l.length : Int) + 1 ≤ (arcsL l).1 := by rw [arcsL_pos]; exact endC_le _ _ _
 rw [h4]
 refine f45_ok m _ (l.length : Int) rfl ⟨?_, h3⟩ ⟨by omega, ?_⟩ h5 (fun a ha => ?_) c1 hm
 ·show 1 ≤ (arcsL l).1; omega
 ·show (l.length : Int) ≤ (arcsL l).1 - 1; omega
 ·exact arc_ok h1 (((srtC_perm _).mem_iff).1 ((c2 a).1 ha))
namespace Rd
theorem eqW_iff (x y : S61) : eqW x y = true ↔ x.fFrom = y.fFrom ∧ x.fIn = y.fIn ∧ x.fOut = y.fOut ∧ x.fTo = y.fTo := by
 unfold eqW
 simp [and_assoc]
theorem goC_sub : ∀ (r : List S61) (p z : S61), z ∈ goC p r → z ∈ r
 | [], p, z, h => by cases h
 | y :: r, p, z, h => by
  by_cases hc : eqW y p = true
  ·rw [goC_eq hc] at h
   exact List.mem_cons_of_mem _ (goC_sub r y z h)
  ·rw [goC_ne (by simpa using hc)] at h
   rcases List.mem_cons.1 h with rfl | h
   ·exact List.mem_cons_self
   ·exact List.mem_cons_of_mem _ (goC_sub r y z h)
theorem goC_rep : ∀ (r : List S61) (p z : S61), z ∈ p :: r → ∃ y ∈ p :: goC p r, eqW z y = true
 | [], p, z, h => ⟨p, List.mem_cons_self, by
   rw [List.mem_singleton.1 h, eqW_iff]; exact ⟨rfl, rfl, rfl, rfl⟩⟩
 | x :: r, p, z, h => by
  rcases List.mem_cons.1 h with rfl | h
  ·exact ⟨z, List.mem_cons_self, by rw [eqW_iff]; exact ⟨rfl, rfl, rfl, rfl⟩⟩
  ·obtain ⟨y, hy, he⟩ := goC_rep r x z h
   by_cases hc : eqW x p = true
   ·rw [goC_eq hc]
    rcases List.mem_cons.1 hy with rfl | hy
    ·refine ⟨p, List.mem_cons_self, ?_⟩
     rw [eqW_iff] at he hc ⊢
     exact ⟨he.1.trans hc.1, he.2.1.trans hc.2.1, he.2.2.1.trans hc.2.2.1, he.2.2.2.trans hc.2.2.2⟩
    ·exact ⟨y, List.mem_cons_of_mem _ hy, he⟩
   ·rw [goC_ne (by simpa using hc)]
    exact ⟨y, List.mem_cons_of_mem _ hy, he⟩
theorem compactL_sub (l : List S61) (z : S61) (h : z ∈ compactL l) : z ∈ l := by
 cases l with
 | nil => exact h
 | cons x r =>
  rcases List.mem_cons.1 h with rfl | h
  ·exact List.mem_cons_self
  ·exact List.mem_cons_of_mem _ (goC_sub r x z h)
theorem compactL_rep (l : List S61) (z : S61) (h : z ∈ l) : ∃ y ∈ compactL l, eqW z y = true := by
 cases l with
 | nil => cases h
 | cons x r => exact goC_rep r x z h
theorem compactL_le : ∀ (l : List S61), (compactL l).length ≤ l.length := by
 have go : ∀ (r : List S61) (p : S61), (goC p r).length ≤ r.length := by
  intro r
  induction r with
  | nil => intro p; exact Nat.le_refl _
  | cons y r ih =>
   intro p
   by_cases hc : eqW y p = true
   ·rw [goC_eq hc]; exact Nat.le_succ_of_le (ih y)
   ·rw [goC_ne (by simpa using hc)]; exact Nat.succ_le_succ (ih y)
 intro l
 cases l with
 | nil => exact Nat.le_refl _
 | cons x r => exact Nat.succ_le_succ (go r x)
theorem red_ar (arcs : List S61) (s : Nat) (x : Int) (t : Nat) : ArO arcs s x t ↔ ∃ a ∈ redW (arcs.map outA), frS a = s ∧ lbS a = x ∧ toS a = t := by
 unfold redW
 constructor
 ·rintro ⟨a, ha, rfl, rfl, rfl⟩
  obtain ⟨y, hy, he⟩ := compactL_rep (srtC cmpA (arcs.map outA)) (outA a) (((srtC_perm _).mem_iff).2 (List.mem_map_of_mem ha))
  rw [eqW_iff] at he
  obtain ⟨e1, e2, e3, e4⟩ := he
  exact ⟨y, hy, congrArg Int.toNat e1.symm, e2.symm, congrArg Int.toNat e4.symm⟩
 ·rintro ⟨y, hy, rfl, rfl, rfl⟩
  have hy := ((srtC_perm _).mem_iff).1 (compactL_sub _ _ hy)
  obtain ⟨a, ha, rfl⟩ := List.mem_map.1 hy
  exact ⟨a, ha, rfl, rfl, rfl⟩
theorem resB_eq (m : S29) (N : Nat) : ∀ (w : List Int) (h : List Bool), resB m N w h = (w.all (fun x => decide (1 ≤ x)) && m.fFinals.any fun f => on (runA frS toS lbS m.fArcs N w h) (stF f))
 | [], h => by simp [resB, runA]
 | x :: w, h => by
  rw [resB_cons]
  by_cases hx : x < 1
  ·rw [if_pos hx, List.all_cons, decide_eq_false (by omega)]; rfl
  ·rw [if_neg hx, List.all_cons, decide_eq_true (by omega), Bool.true_and, resB_eq m N w]
   rfl
theorem on_row1 {N : Nat} (h : 1 ≤ N) (i : Nat) : on (row1 N) i = true ↔ i = 0 := by
 unfold row1
 rw [if_pos (by omega), on_set (by rw [List.length_replicate]; omega), on_replicate]
 simp
theorem accB_iff {m : S29} {N : Nat} (hm : OkA m N) (h1 : 1 ≤ N) (w : List Int) : accB m N w = true ↔ (∀ x ∈ w, 1 ≤ x) ∧ ∃ f ∈ m.fFinals, Pth frS toS lbS m.fArcs 0 w (stF f) := by
 have ht : ∀ a ∈ m.fArcs, toS a < N := fun a ha => (hm.arc a ha).2.2.2
 have hl : (itE frS toS siS m.fArcs N (row1 N)).length = N := by rw [itE_len, row1_len]
 have ht1 : ∀ a ∈ m.fArcs, toS a < (row1 N).length := fun a ha => by rw [row1_len]; exact ht a ha
 have hon : ∀ s, on (itE frS toS siS m.fArcs N (row1 N)) s = true ↔ RE frS toS siS m.fArcs (row1 N) s := fun s => itE_iff ht1 (by rw [row1_len]; exact Nat.le_refl _) s
 unfold accB
 rw [resB_eq, Bool.and_eq_true, List.all_eq_true, List.any_eq_true]
 refine ⟨fun ⟨h2, f, hf, h3⟩ => ?_, fun ⟨h2, f, hf, h3⟩ => ?_⟩
 ·have h2 : ∀ x ∈ w, 1 ≤ x := fun x hx => of_decide_eq_true (h2 x hx)
  refine ⟨h2, f, hf, ?_⟩
  have hc : Clo (fr := frS) (to := toS) (lb := lbS) m.fArcs (itE frS toS siS m.fArcs N (row1 N)) := itE_clo ht1 (by rw [row1_len]; exact Nat.le_refl _)
  obtain ⟨s, hs, hp⟩ := (runA_iff ht w _ hl hc (fun x hx => by have := h2 x hx; omega) (stF f)).1 h3
  obtain ⟨s0, g1, g2⟩ := RE.pth (lb := lbS) ((hon s).1 hs)
  rw [on_row1 h1] at g1
  subst g1
  exact g2.app hp
 ·refine ⟨fun x hx => decide_eq_true (h2 x hx), f, hf, ?_⟩
  have hc : Clo (fr := frS) (to := toS) (lb := lbS) m.fArcs (itE frS toS siS m.fArcs N (row1 N)) := itE_clo ht1 (by rw [row1_len]; exact Nat.le_refl _)
  exact (runA_iff ht w _ hl hc (fun x hx => by have := h2 x hx; omega) (stF f)).2 ⟨0, (hon 0).2 (.base ((on_row1 h1 0).2 rfl)), h3⟩
end Rd
def outL (l : List S55) : S29 := ⟨(machL l).1.fStates, Rd.redW ((machL l).1.fArcs.map Rd.outA), (machL l).1.fFinals⟩
theorem outL_ok {l : List S55} (h : (machL l).2 = ⟨0, 0⟩) : Rd.OkO (machL l).1 ∧ Rd.OkA (outL l) (outL l).fStates.toNat ∧ 1 ≤ (outL l).fStates.toNat := by
 obtain ⟨h1, _, h3, h4, h5⟩ := machL_ok h
 have hE : (l.length : Int) + 1 ≤ (arcsL l).1 := by rw [arcsL_pos]; exact endC_le _ _ _
 have hf : (outL l).fFinals = [⟨(l.length : Int), 0⟩] := by unfold outL; rw [h4]
 have hs : (outL l).fStates = (arcsL l).1 := by unfold outL; rw [h4]
 have ha : (outL l).fArcs = Rd.redW ((compactL (srtC cmpA (arcsL l).2)).map Rd.outA) := by unfold outL; rw [h4]
 refine ⟨⟨?_, ?_⟩, ⟨⟨by omega, by omega, fun a haa => ?_, ?_⟩, fun f hff => ?_, ?_⟩, by omega⟩
 ·rw [h4]; show (compactL (srtC cmpA (arcsL l).2)).length ≤ 5000; omega
 ·rw [h4]; show (1 : Nat) ≤ 5000; omega
 ·rw [ha] at haa
  have hy := ((srtC_perm _).mem_iff).1 (Rd.compactL_sub _ _ haa)
  obtain ⟨b, hb, rfl⟩ := List.mem_map.1 hy
  obtain ⟨c1, c2⟩ := compactA_strict (srtC_sorted toA (arcsL l).2)
  obtain ⟨g1, g2, _, _, _⟩ := arc_ok h1 (((srtC_perm _).mem_iff).1 ((c2 b).1 hb))
  rw [hs]
  show b.fFrom = ((b.fFrom.toNat : Nat) : Int) ∧ b.fFrom.toNat < (arcsL l).1.toNat ∧ b.fTo = ((b.fTo.toNat : Nat) : Int) ∧ b.fTo.toNat < (arcsL l).1.toNat
  omega
 ·rw [ha]
  have := Rd.compactL_le (srtC cmpA ((compactL (srtC cmpA (arcsL l).2)).map Rd.outA))
  rw [Rd.srtC_len, List.length_map] at this
  unfold Rd.redW
  omega
 ·rw [hf] at hff
  obtain rfl := List.mem_singleton.1 hff
  rw [hs]
  show (l.length : Int) = (((l.length : Int).toNat : Nat) : Int) ∧ (l.length : Int).toNat < (arcsL l).1.toNat
  omega
 ·rw [hf]; show (1 : Nat) ≤ 1000000; omega
theorem f6_mach {l : List S55} (h : (machL l).2 = ⟨0, 0⟩) (m : Nat) : f6 m (machL l).1 = some (outL l, ⟨0, 0⟩) := by
 show Rd.f22F (machL l).1 = _
 unfold Rd.f22F
 rw [if_pos (outL_ok h).1, machL_valid h Rd.MO (by decide)]
 rfl
theorem okF_of {l : List S55} (h : OkL l) : OkF l := by
 refine ⟨fun c hc x hx => (h.okI c hc x hx).next, fun c hc x hx => ?_⟩
 obtain ⟨L, h1, h2, _, h4⟩ := pts_ok (h.okI c hc x hx).form
 exact ⟨L, h1, h2, fun p hp => (h4 p hp).1⟩
theorem acc_chn {l : List S55} (h : (machL l).2 = ⟨0, 0⟩) (w : List Int) : Rd.accB (outL l) (outL l).fStates.toNat w = true ↔ (∀ x ∈ w, 1 ≤ x) ∧ ∃ m, Chn l.length (bksL l) 0 w m := by
 obtain ⟨h1, _, h3, h4, h5⟩ := machL_ok h
 obtain ⟨_, k2, k3⟩ := outL_ok h
 have hf : (outL l).fFinals = [⟨(l.length : Int), 0⟩] := by unfold outL; rw [h4]
 have ha : (outL l).fArcs = Rd.redW ((machL l).1.fArcs.map Rd.outA) := rfl
 have hmem : ∀ a, a ∈ (machL l).1.fArcs ↔ a ∈ (posL l).flatMap (arcsP (tagsL l) (l.length : Int)) := fun a => by
  obtain ⟨c1, c2⟩ := compactA_strict (srtC_sorted toA (arcsL l).2)
  rw [h4]
  show a ∈ compactL (srtC cmpA (arcsL l).2) ↔ _
  rw [c2 a, (srtC_perm _).mem_iff, arcsL_pos]
 have hB : Bks l.length (bksL l) (ArO (machL l).1.fArcs) := bks_lex (tagsL l) l _ hmem (fun c hc x hx => (h1.okI c hc x hx).next.2)
 rw [Rd.accB_iff k2 k3 w]
 have hp : ∀ t, Pth Rd.frS Rd.toS Rd.lbS (outL l).fArcs 0 w t ↔ PthR (ArO (machL l).1.fArcs) 0 w t := fun t => Pth.rel (fun s x t => by rw [ha]; exact Rd.red_ar _ s x t) 0 w t
 have hlen := h1.len
 refine and_congr_right fun _ => ?_
 rw [← path_iff hB (by omega : 0 < l.length) w, hf]
 constructor
 ·rintro ⟨f, hff, hq⟩
  obtain rfl := List.mem_singleton.1 hff
  have hq := (hp _).1 hq
  have e : Rd.stF (⟨(l.length : Int), 0⟩ : S52) = l.length := Int.toNat_natCast _
  rwa [e] at hq
 ·intro hq
  refine ⟨_, List.mem_singleton.2 rfl, (hp _).2 ?_⟩
  have e : Rd.stF (⟨(l.length : Int), 0⟩ : S52) = l.length := Int.toNat_natCast _
  rw [e]; exact hq
namespace Rd
theorem edgeStep_keep {n i : Nat} {t : List Bool} {x : S57} {k : Nat} (h : on t k = true) : on (edgeStep n i t x) k = true := by
 unfold edgeStep
 split
 ·by_cases hl : i * n + x.fNext.toNat < t.length
  ·rw [on_set hl, h, Bool.or_true]
  ·rw [List.set_eq_of_length_le (by omega)]; exact h
 ·exact h
theorem edgesI_keep {n i : Nat} : ∀ (xs : List S57) {t : List Bool} {k : Nat}, on t k = true → on (edgesI n i xs t) k = true
 | [], _, _, h => h
 | x :: r, t, k, h => by
  show on (edgesI n i r (edgeStep n i t x)) k = true
  exact edgesI_keep r (edgeStep_keep h)
theorem edgesC_keep {n : Nat} : ∀ (cs : List S55) (i : Nat) {t : List Bool} {k : Nat}, on t k = true → on (edgesC n i cs t) k = true
 | [], _, _, _, h => h
 | c :: r, i, t, k, h => edgesC_keep r (i + 1) (edgesI_keep c.fItems h)
theorem edgesI_hit {n i : Nat} : ∀ (xs : List S57) {t : List Bool} (x : S57), x ∈ xs → 0 ≤ x.fNext → i * n + x.fNext.toNat < t.length → on (edgesI n i xs t) (i * n + x.fNext.toNat) = true
 | y :: r, t, x, hx, h0, hl => by
  show on (edgesI n i r (edgeStep n i t y)) _ = true
  rcases List.mem_cons.1 hx with rfl | hx
  ·refine edgesI_keep r ?_
   unfold edgeStep
   rw [if_pos h0, on_set hl]
   simp
  ·exact edgesI_hit r x hx h0 (by unfold edgeStep; split <;> simpa using hl)
theorem edgesC_len {n : Nat} : ∀ (cs : List S55) (i : Nat) (t : List Bool), (edgesC n i cs t).length = t.length
 | [], _, _ => rfl
 | c :: r, i, t => by
  show (edgesC n (i + 1) r (edgesI n i c.fItems t)).length = _
  rw [edgesC_len r, edgesI_len]
theorem edgesC_hit {n : Nat} : ∀ (cs : List S55) (i j : Nat) {t : List Bool} (c : S55) (x : S57), cs[j]? = some c → x ∈ c.fItems → 0 ≤ x.fNext → (i + j) * n + x.fNext.toNat < t.length → on (edgesC n i cs t) ((i + j) * n + x.fNext.toNat) = true
 | [], _, _, _, _, _, h, _, _, _ => by cases h
 | d :: r, i, 0, t, c, x, h, hx, h0, hl => by
  obtain rfl := Option.some.inj h
  exact edgesC_keep r (i + 1) (edgesI_hit d.fItems x hx h0 hl)
 | d :: r, i, j + 1, t, c, x, h, hx, h0, hl => by
  have e : i + (j + 1) = (i + 1) + j := by omega
  rw [e] at hl ⊢
  exact edgesC_hit r (i + 1) j c x h hx h0 (by rw [edgesI_len]; exact hl)
end Rd
theorem no_loop {l : List S55} (ho : OkL l) (h : Rd.loopsB l = false) : ∀ i, ¬ PB (Edge l.length (bksL l)) l.length i i := by
 intro i hp
 have hE : ∀ i j, Edge l.length (bksL l) i j → i < l.length ∧ j < l.length ∧ on (Rd.edgesC l.length 0 l (List.replicate (l.length * l.length) false)) (i * l.length + j) = true := by
  rintro i j ⟨b, hb, rfl, rfl, hj⟩
  obtain ⟨p, hq, rfl⟩ := List.mem_map.1 hb
  obtain ⟨_, k, c, h2, h3, h4⟩ := posC_mem (tagsL l) l 0 _ p hq
  have hk := (List.getElem?_eq_some_iff.1 h2).1
  have hn := (ho.okI c (List.mem_of_getElem? h2) _ h4).next
  have hj : (toN (l.length : Int) p.2.1).toNat < l.length := hj
  have h0 : 0 ≤ p.2.1.fNext := by
   unfold toN at hj
   split at hj <;> omega
  have e : toN (l.length : Int) p.2.1 = p.2.1.fNext := by unfold toN; rw [if_pos h0]
  rw [Nat.zero_add] at h3
  have g1 : (blkP (tagsL l) l.length p).i = k := h3
  have g2 : (blkP (tagsL l) l.length p).t = p.2.1.fNext.toNat := by show (toN (l.length : Int) p.2.1).toNat = _; rw [e]
  rw [g1, g2]
  refine ⟨hk, by omega, ?_⟩
  have := Rd.edgesC_hit (n := l.length) l 0 k (t := List.replicate (l.length * l.length) false) c p.2.1 h2 h4 h0 (by
   rw [List.length_replicate, Nat.zero_add]; exact ix_lt hk (by omega))
  rwa [Nat.zero_add] at this
 obtain ⟨_, h2⟩ := wAll (E := Edge l.length (bksL l)) (n := l.length) (fun i j he => ⟨(hE i j he).1, (hE i j he).2.1⟩) (Rd.edgesC l.length 0 l (List.replicate (l.length * l.length) false)) (by rw [Rd.edgesC_len, List.length_replicate]) (fun i j he => (hE i j he).2.2) l.length (Nat.le_refl _)
 have hi : i < l.length := by
  have ends : ∀ {i j : Nat}, PB (Edge l.length (bksL l)) l.length i j → i < l.length := by
   intro i j h
   induction h with
   | edge h => exact (hE _ _ h).1
   | cat _ _ _ a _ => exact a
  exact ends hp
 have : Rd.loopsB l = true := by
  unfold Rd.loopsB
  rw [List.any_eq_true]
  exact ⟨i, List.mem_range.2 hi, h2 i i hp⟩
 rw [h] at this
 cases this
theorem f10_eq (m : Nat) (a b : List Int) (hm : a.length < m) (hl : a.length ≤ 1000000) : f10 m a b = some (decide (a = b)) := by
 unfold f10
 by_cases h : a.length = b.length
 ·have hb : ((a.length : Int) != (b.length : Int)) = false := by simp [h]
  rw [hb, cnd_false]
  have e : iter (fun (y : Int) => f10_B1 m a b y) m 0 = landed (fun (_ : Unit) (i : Int) => i) a.length (scan (R := Bool) (fun (i : Int) (_ : Unit) (x : Int) => (idx b i).map fun y => if x = y then .inr () else .inl false) 0 () a) := by
   refine iter_scan a (fun (y : Int) => f10_B1 m a b y) (fun (_ : Unit) (i : Int) => i) _ (fun u k hi => ?_) m 0 () (by omega) (by omega)
   unfold f10_B1
   refine body_turn rfl fun x hx => ?_
   have hk := lt_of_getElem? hx
   have hw : w64 ((k : Int) + 1) = (k : Int) + 1 := w64_id ⟨by omega, by omega⟩
   rw [idx_get, List.getElem?_eq_getElem (by omega : k < b.length), bnd_some', Option.map_some, hw]
   by_cases he : x = b[k]'(by omega)
   ·have : (x != b[k]'(by omega)) = false := by simpa using he
    rw [this, cnd_false]; simp [he]
   ·have : (x != b[k]'(by omega)) = true := by simpa using he
    rw [this, cnd_true]; simp [he]
  rw [e]
  have := scan_same a b h a.length 0 (by omega)
  rw [show ((0 : Nat) : Int) = 0 from rfl, List.drop_zero, List.drop_zero] at this
  rw [this]
  by_cases he : a = b
  ·rw [if_pos he, decide_eq_true he]; rfl
  ·rw [if_neg he, decide_eq_false he]; rfl
 ·have hb : ((a.length : Int) != (b.length : Int)) = true := by simp; omega
  rw [hb, cnd_true, decide_eq_false]
  intro h'; subst h'; exact h rfl
theorem size_rch {l : List S55} (ho : OkL l) : ∀ (k : Nat) (c : Int) (e z : S40), Rch l k c e z → z.fForm.size ≤ e.fForm.size + 120 * k
 | 0, _, _, _, h => h.elim
 | k + 1, c, e, z, ⟨cl, hc, x, hx, hz⟩ => by
  have hcl : cl ∈ l := by
   unfold idx at hc
   split at hc
   ·exact List.mem_of_getElem? hc
   ·cases hc
  obtain ⟨_, _, _, hs, _⟩ := partS_spec (ho.okI cl hcl x hx).form
  have he : (stepE e x).fForm.size = e.fForm.size + x.fForm.size := by
   show (e.fForm ++ x.fForm).size = _
   rw [ByteArray.size_append]
  rcases hz with ⟨_, rfl⟩ | ⟨_, hr⟩
  ·omega
  ·have := size_rch ho k x.fNext (stepE e x) z hr
   omega
theorem form_chn {l : List S55} (ho : OkL l) {k : Nat} {z : S40} (h : Rch l k 0 zE z) : ∃ m L, m ≤ k ∧ Chn l.length (bksL l) 0 (castL L) m ∧ ptsS z.fForm = some L := by
 obtain ⟨m, w, Lw, h1, h2, h3, rfl⟩ := rch_chn (okF_of ho) k 0 zE z [] rfl h
 exact ⟨m, Lw, h1, h2, h3⟩
theorem chn_form {l : List S55} (ho : OkL l) {w : List Int} {m k : Nat} (h : Chn l.length (bksL l) 0 w m) (hk : m ≤ k) : ∃ z L, Rch l k 0 zE z ∧ ptsS z.fForm = some L ∧ castL L = w := by
 obtain ⟨z, Lw, h1, h2, h3⟩ := chn_rch (okF_of ho) h k hk zE [] rfl
 exact ⟨z, Lw, h1, h2, h3⟩
theorem chn_pos {l : List S55} (ho : OkL l) {c : Nat} {w : List Int} {m : Nat} (h : Chn l.length (bksL l) c w m) : ∀ x ∈ w, 1 ≤ x := by
 have hone : ∀ b ∈ bksL l, ∀ x ∈ outs b, 1 ≤ x := fun b hb x hx => by
  obtain ⟨p, hp, rfl⟩ := List.mem_map.1 hb
  obtain ⟨L, g1, g2⟩ := outs_form (okF_of ho) hp
  rw [g2] at hx
  obtain ⟨q, hq, rfl⟩ := List.mem_map.1 hx
  obtain ⟨_, j, c, h2, _, h4⟩ := posC_mem (tagsL l) l 0 _ p hp
  obtain ⟨L', k1, _, _, k4⟩ := pts_ok (ho.okI c (List.mem_of_getElem? h2) _ h4).form
  rw [k1] at g1
  obtain rfl := Option.some.inj g1
  have := (k4 q hq).1
  omega
 induction h with
 | last hb _ => exact hone _ hb
 | more hb _ _ ih =>
  intro x hx
  rcases List.mem_append.1 hx with hx | hx
  ·exact hone _ hb x hx
  ·exact ih x hx
theorem loop3 (m : Nat) (l : List S55) (a1 : List Int) (h : (machL l).2 = ⟨0, 0⟩) (o : List S40) (ho : ∀ z ∈ o, Rch l 4 0 zE z) (hl : o.length ≤ 300) (f : S31) (hm : 200000 ≤ m) :
  iter (fun (y : Bool × Int) => f3_B3 m a1 (outL l, f) (o, ⟨0, 0⟩) y.1 y.2) m (false, 0) = some (.inr (o.any (fun z => decide (ptsI z.fForm = a1)), (o.length : Int))) := by
 obtain ⟨h1, _, _, _, _⟩ := machL_ok h
 have e := iter_scan o (fun (y : Bool × Int) => f3_B3 m a1 (outL l, f) (o, ⟨0, 0⟩) y.1 y.2) (fun (s : Bool) (i : Int) => (s, i)) (fun (_ : Int) (s : Bool) (z : S40) => some (.inr (s || decide (ptsI z.fForm = a1)))) (fun s i hi => by
  show f3_B3 m a1 (outL l, f) (o, ⟨0, 0⟩) s (i : Int) = _
  unfold f3_B3
  refine body_turn rfl fun z hz => ?_
  have hi := lt_of_getElem? hz
  have hw1 : w64 ((i : Int) + 1) = (i : Int) + 1 := w64_id ⟨by omega, by omega⟩
  have hr := ho z (List.mem_of_getElem? hz)
  obtain ⟨k, L, _, g2, g3⟩ := form_chn h1 hr
  have hsz : z.fForm.size ≤ 480 := by
   have := size_rch h1 4 0 zE z hr
   have e0 : zE.fForm.size = 0 := rfl
   omega
  have hp : ptsI z.fForm = castL L := by unfold ptsI; rw [g3]; rfl
  have hlen := (ptsS_len g3).1
  have h8 : f8 m z.fForm = some (castL L, ⟨0, 0⟩) := (f8_eq m z.fForm (by omega)).1 L (by omega) g3
  have hacc : f9 m (outL l) (castL L) = some true := by
   show f9L (outL l) (castL L) = some true
   unfold f9L
   rw [if_pos ⟨(outL_ok h).2.1, by unfold castL maxLen; rw [List.length_map]; omega⟩, (acc_chn h (castL L)).2 ⟨chn_pos h1 g2, k, g2⟩]
  rw [h8, bnd_some']
  have hz0 : (!(((castL L, (⟨0, 0⟩ : S31)).2.fCode == 0) && (((castL L, (⟨0, 0⟩ : S31)).2.fIndex == 0) && true))) = false := rfl
  rw [hz0, cnd_false]
  have hin : (cnd (decide ((i : Int) < 20)) (bnd (f9 m (outL l, f).1 (castL L, (⟨0, 0⟩ : S31)).1) fun v98 => some (!v98)) (some false)) = some false := by
   show (cnd (decide ((i : Int) < 20)) (bnd (f9 m (outL l) (castL L)) fun v98 => some (!v98)) (some false)) = some false
   rw [hacc, bnd_some']
   cases decide ((i : Int) < 20) <;> rfl
  rw [hin, bnd_some']
  unfold f3_r2
  rw [cnd_false]
  have hnum : f10 m (castL L, (⟨0, 0⟩ : S31)).1 a1 = some (decide (castL L = a1)) := f10_eq m (castL L) a1 (by unfold castL; rw [List.length_map]; omega) (by unfold castL; rw [List.length_map]; omega)
  rw [hnum, bnd_some', hp]
  unfold f3_r1
  rw [hw1]
  cases s
  ·rw [cnd_false, bnd_some', Bool.false_or]
  ·rw [cnd_true, bnd_some', Bool.true_or]) m 0 false (by omega) (by omega)
 have hs : ∀ (xs : List S40) (i : Int) (s : Bool), scan (R := Bool) (fun (_ : Int) (s : Bool) (z : S40) => some (.inr (s || decide (ptsI z.fForm = a1)))) i s xs = some (.inr (s || xs.any (fun z => decide (ptsI z.fForm = a1)))) := by
  intro xs
  induction xs with
  | nil => intro i s; simp [scan]
  | cons x r ih => intro i s; simp only [scan, ih, List.any_cons, Bool.or_assoc]
 rw [List.drop_zero, hs, Bool.false_or] at e
 exact e
theorem plain3 (a0 : S23) (a1 : List Int) (hw : a1.length ≤ maxLen) : f3 200000 a0 a1 = some true := by
 unfold f3
 rw [f4_true 200000 (by decide), bnd_some', Bool.not_true, cnd_false, f5_eq 200000 a0 (Nat.le_refl _), bnd_some']
 by_cases h : (machL a0.fClasses).2 = ⟨0, 0⟩
 ·have hz : (!((machL a0.fClasses).2.fCode == 0 && ((machL a0.fClasses).2.fIndex == 0 && true))) = false := by rw [h]; rfl
  rw [hz, cnd_false, f6_mach h, bnd_some']
  have h1 := (machL_ok h).1
  rcases entriesL_ok a0 4 with ⟨f, e1, e2⟩ | ⟨o, e1, _, e3⟩
  ·have e1 : f7 200000 a0 4 = some ([], f) := e1
   rw [e1, bnd_some']
   have hi : ((f.fCode == 0) && ((f.fIndex == 0) && true)) = false := e2
   have hh : ((!(((outL a0.fClasses, (⟨0, 0⟩ : S31)).2.fCode == 0) && (((outL a0.fClasses, (⟨0, 0⟩ : S31)).2.fIndex == 0) && true))) || (!(((([] : List S40), f).2.fCode == 0) && (((([] : List S40), f).2.fIndex == 0) && true)))) = true := by
    show (false || !((f.fCode == 0) && ((f.fIndex == 0) && true))) = true
    rw [hi]; rfl
   rw [hh]
   unfold f3_r5
   rw [cnd_true]
   show some (!((f.fCode == 0) && ((f.fIndex == 0) && true))) = some true
   rw [hi]; rfl
  ·have e1 : f7 200000 a0 4 = some (o, ⟨0, 0⟩) := e1
   rw [e1, bnd_some']
   show f3_r5 200000 a0 a1 (outL a0.fClasses, ⟨0, 0⟩) (o, ⟨0, 0⟩) false = some true
   unfold f3_r5
   rw [cnd_false, loop3 200000 a0.fClasses a1 h o (fun z hz => (e3.mem z).1 hz) e3.len ⟨0, 0⟩ (Nat.le_refl _), brk_inr]
   have h11 : f11 200000 a0 = some (Rd.loopsB a0.fClasses) := by
    show f11L a0 = _
    unfold f11L
    have hl := h1.len
    rw [if_pos ⟨by omega, fun c hc => ⟨by have := h1.items c hc; omega, fun x hx => (h1.okI c hc x hx).next.2⟩⟩]
   rw [h11, bnd_some']
   unfold f3_r4
   by_cases hc : (Rd.loopsB a0.fClasses || decide ((a0.fClasses.length : Int) > 4)) = true
   ·rw [hc, cnd_true]
   ·have hc : (Rd.loopsB a0.fClasses || decide ((a0.fClasses.length : Int) > 4)) = false := by simpa using hc
    rw [hc, cnd_false]
    rw [Bool.or_eq_false_iff] at hc
    have h4 := of_decide_eq_false hc.2
    have h9 : f9 200000 (outL a0.fClasses) a1 = some (Rd.accB (outL a0.fClasses) (outL a0.fClasses).fStates.toNat a1) := by
     show f9L (outL a0.fClasses) a1 = _
     unfold f9L
     rw [if_pos ⟨(outL_ok h).2.1, hw⟩]
    show bnd (f9 200000 (outL a0.fClasses) a1) _ = _
    rw [h9, bnd_some']
    congr 1
    rw [beq_iff_eq]
    refine Bool.eq_iff_iff.2 ?_
    rw [acc_chn h a1, List.any_eq_true]
    constructor
    ·rintro ⟨_, m, hm⟩
     have hi : ∀ b ∈ bksL a0.fClasses, b.i < a0.fClasses.length := fun b hb => by
      obtain ⟨p, hp, rfl⟩ := List.mem_map.1 hb
      obtain ⟨_, j, c, h2, h3, _⟩ := posC_mem (tagsL a0.fClasses) a0.fClasses 0 _ p hp
      have hj := (List.getElem?_eq_some_iff.1 h2).1
      show p.1 < _
      omega
     have hlen := chn_short hi (no_loop h1 hc.1) hm
     obtain ⟨z, L, g1, g2, g3⟩ := chn_form h1 hm (by omega : m ≤ 4)
     refine ⟨z, (e3.mem z).2 g1, decide_eq_true ?_⟩
     unfold ptsI
     rw [g2]
     exact g3
    ·rintro ⟨z, hz, hp⟩
     have hp := of_decide_eq_true hp
     obtain ⟨m, L, _, g2, g3⟩ := form_chn h1 ((e3.mem z).1 hz)
     have : castL L = a1 := by
      rw [← hp]; unfold ptsI; rw [g3]; rfl
     rw [this] at g2
     exact ⟨chn_pos h1 g2, m, g2⟩
 ·have hz : (!((machL a0.fClasses).2.fCode == 0 && ((machL a0.fClasses).2.fIndex == 0 && true))) = true := by
   cases hq : (machL a0.fClasses).2 with
   | mk c i =>
    rw [hq] at h
    by_cases h1 : c = 0
    ·by_cases h2 : i = 0
     ·exact absurd (by rw [h1, h2]) h
     ·have : (i == 0) = false := by simpa using h2
      show (!((c == 0) && ((i == 0) && true))) = true
      rw [this]; simp
    ·have : (c == 0) = false := by simpa using h1
     show (!((c == 0) && ((i == 0) && true))) = true
     rw [this]; rfl
  rw [hz, cnd_true]
end Go.Abs
