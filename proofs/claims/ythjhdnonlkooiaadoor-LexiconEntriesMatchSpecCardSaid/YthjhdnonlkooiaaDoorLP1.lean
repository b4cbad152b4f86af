/-
  LEXICON ENTRIES, the plain laws: what is wrong with a lexicon.
-/
import Derived.Test.YthjhdnonlkooiaaDoorLA5
namespace Go.Abs
set_option linter.unusedVariables false

def itemBad (n : Nat) (x : S90) : Int := if !(partS x.fBase && partS x.fForm) then 5 else if x.fTags.length > 4 then 2 else if !(x.fTags.all nameS) then 10 else if x.fNext < -1 ∨ (n : Int) ≤ x.fNext ∨ x.fWeight < 0 ∨ 1000000 < x.fWeight then 3 else 0
def firstC {α : Type} (c : α → Int) (xs : List α) : Int := orr (xs.map c)
def classBad (l : List S88) (i : Nat) (c : S88) : Int := if !nameS c.fName then 10 else if (l.take i).any (fun d => decide (d.fName = c.fName)) then 7 else if c.fItems.length > 100 then 2 else firstC (itemBad l.length) c.fItems
def lexFrom (l : List S88) : Nat → List S88 → S27
  | _, [] => ⟨0, 0⟩
  | i, c :: r => if classBad l i c ≠ 0 then ⟨classBad l i c, i⟩ else lexFrom l (i + 1) r
def lexF (l : List S88) : S27 := if l.length < 1 ∨ 40 < l.length then ⟨9, -1⟩ else lexFrom l 0 l

theorem scan_firstC {α R : Type} (c : α → Int) (k : Int → R) : ∀ (xs : List α) (i : Int), scan (fun _ (_ : Unit) (x : α) => if c x ≠ 0 then some (.inl (k (c x))) else some (.inr ())) i () xs = if firstC c xs ≠ 0 then some (.inl (k (firstC c xs))) else some (.inr ())
  | [], i => by simp [scan, firstC, orr]
  | x :: r, i => by
    by_cases h : c x = 0
    · have e : firstC c (x :: r) = firstC c r := by simp [firstC, orr, h]
      rw [e]
      simp only [scan, h, ne_eq, not_true, if_false]
      exact scan_firstC c k r (i + 1)
    · have e : firstC c (x :: r) = c x := by simp [firstC, orr, h]
      rw [e]
      simp only [scan, ne_eq, h, not_false_eq_true, if_true]
theorem firstC_zero {α : Type} {c : α → Int} {xs : List α} (h : firstC c xs = 0) : ∀ x ∈ xs, c x = 0 := by
  induction xs with
  | nil => intro x hx; cases hx
  | cons y r ih =>
    intro x hx
    by_cases hy : c y = 0
    · have e : firstC c (y :: r) = firstC c r := by simp [firstC, orr, hy]
      rw [e] at h
      rcases List.mem_cons.1 hx with rfl | hx
      · exact hy
      · exact ih h x hx
    · have e : firstC c (y :: r) = c y := by simp [firstC, orr, hy]
      rw [e] at h
      exact absurd h hy
theorem emp_eq (s : ByteArray) : (s.toList == (⟨#[]⟩ : ByteArray).toList) = decide (s = ⟨#[]⟩) := tl_eq _ _
theorem f72_tags (m : Nat) (x : S90) (hm : 31 < m) (hl : x.fTags.length ≤ 4) : iter (fun (y : Int) => f72_B2 m x y) m 0 = if x.fTags.all nameS then some (.inr (x.fTags.length : Int)) else some (.inl 10) := by
  have e : iter (fun (y : Int) => f72_B2 m x y) m 0 = landed (fun (_ : Unit) (i : Int) => i) x.fTags.length (scan (fun _ (_ : Unit) t => if nameS t then some (.inr ()) else some (.inl 10)) 0 () x.fTags) := by
    refine iter_scan x.fTags (fun (y : Int) => f72_B2 m x y) (fun (_ : Unit) (i : Int) => i) _ (fun u i hi => ?_) m 0 () (by omega) (by omega)
    unfold f72_B2
    refine body_turn rfl fun t ht => ?_
    have hw : w64 ((i : Int) + 1) = (i : Int) + 1 := w64_id ⟨by omega, by omega⟩
    rw [f39_eq m t hm, bnd_some']
    cases hn : nameS t with
    | true => simp [hw]
    | false => simp
  rw [e, scan_all nameS]
  cases x.fTags.all nameS <;> rfl
theorem f72_item (m : Nat) (a0 : S51) (i : Int) (x : S90) (hm : 4001 < m) (hn : a0.fClasses.length ≤ 1000) :
    (bnd (cnd (!(x.fBase.toList == (⟨#[]⟩ : ByteArray).toList)) (bnd (f32 m x.fBase) fun v256 => some (!v256)) (some false)) fun v190 => f72_r7 m a0 i x v190) = if itemBad a0.fClasses.length x ≠ 0 then some (.ret (itemBad a0.fClasses.length x)) else some (.nxt (w64 (i + 1))) := by
  have hp : ∀ s : ByteArray, cnd (!(s.toList == (⟨#[]⟩ : ByteArray).toList)) (bnd (f32 m s) fun v => some (!v)) (some false) = some (!partS s) := by
    intro s
    rw [emp_eq, f32_eq m s hm, bnd_some']
    unfold partS
    by_cases h : s = ⟨#[]⟩
    · simp [h]
    · simp [h]
  rw [hp, bnd_some']
  unfold f72_r7
  rw [hp]
  unfold itemBad
  cases hb : partS x.fBase with
  | false => simp [f72_r6]
  | true =>
    cases hf : partS x.fForm with
    | false => simp [f72_r6]
    | true =>
      simp only [Bool.not_true, cnd_false, bnd_some', f72_r6, Bool.and_self, Bool.false_eq_true, if_false]
      by_cases ht : x.fTags.length > 4
      · rw [decide_eq_true (by omega), cnd_true, if_pos ht]; simp
      · rw [decide_eq_false (by omega), cnd_false, if_neg ht, f72_tags m x (by omega) (by omega)]
        cases ha : x.fTags.all nameS with
        | false => simp
        | true =>
          simp only [if_true, brk_inr, f72_r5, f72_r4, f72_r3, Bool.not_true, Bool.false_eq_true, if_false]
          have hc : ((((decide (x.fNext < -1) || decide (x.fNext ≥ (a0.fClasses.length : Int))) || decide (x.fWeight < 0)) || decide (x.fWeight > 1000000)) = true) ↔ (x.fNext < -1 ∨ (a0.fClasses.length : Int) ≤ x.fNext ∨ x.fWeight < 0 ∨ 1000000 < x.fWeight) := by
            simp only [Bool.or_eq_true, decide_eq_true_eq, or_assoc, ge_iff_le, gt_iff_lt]
          by_cases h : x.fNext < -1 ∨ (a0.fClasses.length : Int) ≤ x.fNext ∨ x.fWeight < 0 ∨ 1000000 < x.fWeight
          · rw [hc.2 h, cnd_true, if_pos h]; simp
          · have h' : (((decide (x.fNext < -1) || decide (x.fNext ≥ (a0.fClasses.length : Int))) || decide (x.fWeight < 0)) || decide (x.fWeight > 1000000)) = false := by
              rw [← Bool.not_eq_true, hc]; exact h
            rw [h', cnd_false, if_neg h]; simp
theorem f72_eq (m : Nat) (a0 : S51) (hm : 4001 < m) (hn : a0.fClasses.length ≤ 40) (i : Nat) (c : S88) (hc : a0.fClasses[i]? = some c) : f72 m a0 (i : Int) = some (classBad a0.fClasses i c) := by
  have hi := lt_of_getElem? hc
  unfold f72 classBad
  rw [idx_get, hc, bnd_some', f39_eq m _ (by omega), bnd_some']
  cases hnm : nameS c.fName with
  | false => simp
  | true =>
    have hs : sub a0.fClasses 0 (i : Int) = some (a0.fClasses.take i) := by
      unfold sub
      rw [if_pos ⟨by omega, by omega, by omega⟩, Int.toNat_natCast]; simp
    have htl : (a0.fClasses.take i).length = i := by rw [List.length_take]; omega
    have e1 : iter (fun (y : Int) => f72_B1 m c (a0.fClasses.take i) y) m 0 = landed (fun (_ : Unit) (i : Int) => i) (a0.fClasses.take i).length (scan (fun _ (_ : Unit) (d : S88) => if !(decide (d.fName = c.fName)) then some (.inr ()) else some (.inl 7)) 0 () (a0.fClasses.take i)) := by
      refine iter_scan (a0.fClasses.take i) (fun (y : Int) => f72_B1 m c (a0.fClasses.take i) y) (fun (_ : Unit) (i : Int) => i) _ (fun u k hk => ?_) m 0 () (by omega) (by omega)
      unfold f72_B1
      refine body_turn rfl fun d hd => ?_
      have hw : w64 ((k : Int) + 1) = (k : Int) + 1 := w64_id ⟨by omega, by omega⟩
      rw [tl_eq]
      by_cases h : d.fName = c.fName
      · simp [h]
      · simp [h, hw]
    simp only [Bool.not_true, cnd_false, hs, bnd_some', Bool.false_eq_true, if_false]
    rw [e1, scan_all (fun d : S88 => !(decide (d.fName = c.fName)))]
    cases hex : (a0.fClasses.take i).any (fun d => decide (d.fName = c.fName)) with
    | true =>
      have : ((a0.fClasses.take i).all fun d => !(decide (d.fName = c.fName))) = false := by
        rw [← Bool.not_eq_true, List.all_eq_true]
        intro h
        obtain ⟨d, hd, he⟩ := List.any_eq_true.1 hex
        have := h d hd
        rw [he] at this; cases this
      rw [this]
      simp [landed]
    | false =>
      have : ((a0.fClasses.take i).all fun d => !(decide (d.fName = c.fName))) = true := by
        rw [List.all_eq_true]
        intro d hd
        have := List.any_eq_false.1 hex d hd
        simpa using this
      rw [this]
      simp only [if_true, landed, brk_inr, Bool.false_eq_true, if_false]
      by_cases hl : c.fItems.length > 100
      · rw [decide_eq_true (by omega), cnd_true, if_pos hl]
      · rw [decide_eq_false (by omega), cnd_false, if_neg hl]
        have e2 : iter (fun (y : Int) => f72_B8 m a0 c y) m 0 = landed (fun (_ : Unit) (i : Int) => i) c.fItems.length (scan (fun _ (_ : Unit) (x : S90) => if itemBad a0.fClasses.length x ≠ 0 then some (.inl (id (itemBad a0.fClasses.length x))) else some (.inr ())) 0 () c.fItems) := by
          refine iter_scan c.fItems (fun (y : Int) => f72_B8 m a0 c y) (fun (_ : Unit) (i : Int) => i) _ (fun u k hk => ?_) m 0 () (by omega) (by omega)
          unfold f72_B8
          refine body_turn rfl fun x hx => ?_
          have hw : w64 ((k : Int) + 1) = (k : Int) + 1 := w64_id ⟨by omega, by omega⟩
          rw [f72_item m a0 k x hm (by omega)]
          by_cases h : itemBad a0.fClasses.length x = 0
          · simp [h, hw]
          · simp [h]
        rw [e2, scan_firstC]
        by_cases h : firstC (itemBad a0.fClasses.length) c.fItems = 0
        · simp [h, landed]
        · simp [h, landed]
theorem scan_lex (l : List S88) : ∀ (xs : List S88) (i : Nat), scan (fun (i : Int) (_ : Unit) (c : S88) => if classBad l i.toNat c ≠ 0 then some (.inl (⟨classBad l i.toNat c, i⟩ : S27)) else some (.inr ())) (i : Int) () xs = if (lexFrom l i xs).fCode ≠ 0 then some (.inl (lexFrom l i xs)) else some (.inr ())
  | [], i => by simp [scan, lexFrom]
  | c :: r, i => by
    by_cases h : classBad l i c = 0
    · simp only [scan, lexFrom, Int.toNat_natCast, h, ne_eq, not_true, if_false]
      have := scan_lex l r (i + 1)
      rw [show ((i + 1 : Nat) : Int) = (i : Int) + 1 by omega] at this
      exact this
    · simp only [scan, lexFrom, Int.toNat_natCast, ne_eq, h, not_false_eq_true, if_true]
theorem lexFrom_zero (l : List S88) : ∀ (xs : List S88) (i : Nat), (lexFrom l i xs).fCode = 0 → lexFrom l i xs = ⟨0, 0⟩ ∧ ∀ j c, xs[j]? = some c → classBad l (i + j) c = 0
  | [], i, _ => ⟨rfl, fun j c h => by simp at h⟩
  | c :: r, i, h => by
    by_cases hb : classBad l i c = 0
    · simp only [lexFrom, hb, ne_eq, not_true, if_false] at h ⊢
      obtain ⟨h1, h2⟩ := lexFrom_zero l r (i + 1) h
      refine ⟨h1, fun j c' hj => ?_⟩
      cases j with
      | zero => simp at hj; subst hj; exact hb
      | succ j =>
        have := h2 j c' (by simpa using hj)
        rw [show i + (j + 1) = i + 1 + j by omega]; exact this
    · simp only [lexFrom, ne_eq, hb, not_false_eq_true, if_true] at h
theorem f52_eq (m : Nat) (a0 : S51) (hm : 4001 < m) : f52 m a0 = some (lexF a0.fClasses) := by
  unfold f52 f52_r2 lexF
  by_cases h : a0.fClasses.length < 1 ∨ 40 < a0.fClasses.length
  · have : (decide ((a0.fClasses.length : Int) < 1) || decide ((a0.fClasses.length : Int) > 40)) = true := by
      simp only [Bool.or_eq_true, decide_eq_true_eq]; omega
    rw [this, cnd_true, if_pos h]; rfl
  · have : (decide ((a0.fClasses.length : Int) < 1) || decide ((a0.fClasses.length : Int) > 40)) = false := by
      rw [← Bool.not_eq_true]; simp only [Bool.or_eq_true, decide_eq_true_eq]; omega
    rw [this, cnd_false, if_neg h]
    have e : iter (fun (y : Int) => f52_B1 m a0 y) m 0 = landed (fun (_ : Unit) (i : Int) => i) a0.fClasses.length (scan (fun (i : Int) (_ : Unit) (c : S88) => if classBad a0.fClasses i.toNat c ≠ 0 then some (.inl (⟨classBad a0.fClasses i.toNat c, i⟩ : S27)) else some (.inr ())) 0 () a0.fClasses) := by
      refine iter_scan a0.fClasses (fun (y : Int) => f52_B1 m a0 y) (fun (_ : Unit) (i : Int) => i) _ (fun u k hk => ?_) m 0 () (by omega) (by omega)
      unfold f52_B1
      refine body_turn' rfl fun c hc => ?_
      have hw : w64 ((k : Int) + 1) = (k : Int) + 1 := w64_id ⟨by omega, by omega⟩
      rw [f72_eq m a0 hm (by omega) k c hc, bnd_some', Int.toNat_natCast]
      by_cases hb : classBad a0.fClasses k c = 0
      · simp [hb, hw]
      · have : (classBad a0.fClasses k c != 0) = true := by simpa using hb
        simp only [this, cnd_true, ne_eq, hb, not_false_eq_true, if_true]
        rfl
    rw [e]
    have hsc := scan_lex a0.fClasses a0.fClasses 0
    rw [show ((0 : Nat) : Int) = 0 from rfl] at hsc
    rw [hsc]
    by_cases hz : (lexFrom a0.fClasses 0 a0.fClasses).fCode = 0
    · rw [if_neg (by simp [hz]), (lexFrom_zero _ _ _ hz).1]; rfl
    · rw [if_pos hz]; rfl
/-- a lexicon in which nothing is wrong -/
structure OkL (l : List S88) : Prop where
  len : 1 ≤ l.length ∧ l.length ≤ 40
  items : ∀ c ∈ l, c.fItems.length ≤ 100
  item : ∀ c ∈ l, ∀ x ∈ c.fItems, itemBad l.length x = 0
theorem lexF_ok {l : List S88} (h : (lexF l).fCode = 0) : OkL l ∧ lexF l = ⟨0, 0⟩ := by
  unfold lexF at h ⊢
  split at h
  · simp at h
  · rename_i hl
    rw [if_neg hl]
    obtain ⟨h1, h2⟩ := lexFrom_zero l l 0 h
    refine ⟨⟨by omega, fun c hc => ?_, fun c hc x hx => ?_⟩, h1⟩
    · obtain ⟨j, hj⟩ := List.getElem?_of_mem hc
      have hb := h2 j c hj
      unfold classBad at hb
      split at hb
      · omega
      · split at hb
        · omega
        · split at hb
          · omega
          · omega
    · obtain ⟨j, hj⟩ := List.getElem?_of_mem hc
      have hb := h2 j c hj
      unfold classBad at hb
      split at hb
      · omega
      · split at hb
        · omega
        · split at hb
          · omega
          · exact firstC_zero hb x hx
end Go.Abs
