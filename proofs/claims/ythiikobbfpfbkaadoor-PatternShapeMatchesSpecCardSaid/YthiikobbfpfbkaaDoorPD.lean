/-
  PATTERNS, the plain laws: what Print writes.
-/
import Derived.Test.YthiikobbfpfbkaaDoorPC
namespace Go.Abs
open Go.Sort Go.Proofs
set_option linter.unusedVariables false
set_option maxRecDepth 100000

def levK (k : Int) : Int := if k = 4 then 1 else if k = 6 ∨ k = 7 then 2 else if k = 3 then 3 else if k = 5 then 4 else 5
theorem f38_eq (m : Nat) (k : Int) : f38 m k = some (levK k) := by
  unfold f38 f38_j1 levK
  by_cases h4 : k = 4
  · simp [h4]
  · by_cases h6 : k = 6
    · simp [h6]
    · by_cases h7 : k = 7
      · simp [h7]
      · by_cases h3 : k = 3
        · simp [h3]
        · by_cases h5 : k = 5
          · simp [h5]
          · have e : ∀ z, k ≠ z → (k == z) = false := fun z h => by simpa using h
            rw [e 4 h4, e 6 h6, e 7 h7, e 3 h3, e 5 h5, if_neg h4, if_neg (by omega), if_neg h3, if_neg h5]
            rfl
def repT (l m : Int) : List Nat :=
  if l = 0 ∧ m < 0 then [42] else if l = 1 ∧ m < 0 then [43] else if l = 0 ∧ m = 1 then [63]
  else [123, 48 + l.toNat, 44] ++ (if 0 ≤ m then [48 + m.toNat] else []) ++ [125]
def sepT : List (List Nat) → List Nat
  | [] => []
  | x :: r => x ++ r.flatMap fun y => 124 :: y
def labT (l : List Int) : List Nat := l.flatMap fun x => signs x.toNat
/-- brackets, where a kind binds less tightly than asked for -/
def wrapT (k least : Int) (t : List Nat) : List Nat := if levK k < least then 40 :: (t ++ [41]) else t
noncomputable def txt : Nat → S24 → List Nat
  | 0, _ => []
  | r + 1, p =>
    if p.fKind = 1 then [40, 41]
    else if p.fKind = 2 then (if p.fLabels.length = 1 then labT p.fLabels else 91 :: (labT p.fLabels ++ [93]))
    else if p.fKind = 3 then p.fSubs.flatMap fun q => wrapT q.vw.fKind 4 (txt r q.vw)
    else if p.fKind = 4 then sepT (p.fSubs.map fun q => wrapT q.vw.fKind 2 (txt r q.vw))
    else match p.fSubs with
      | [] => []
      | q :: s => if p.fKind = 5 then wrapT q.vw.fKind 4 (txt r q.vw) ++ repT p.fLeast p.fMost
        else match s with
        | [] => []
        | q' :: _ => wrapT q.vw.fKind 2 (txt r q.vw) ++ (if p.fKind = 6 then 38 else 45) :: wrapT q'.vw.fKind 3 (txt r q'.vw)
noncomputable def tight (r : Nat) (p : S24) (least : Int) : List Nat := wrapT p.fKind least (txt r p)
/-! ### how long it is -/
theorem Gd.pos : ∀ {r : Nat} {p : S24} {n : Nat}, Gd r p n → 1 ≤ n
  | 0, _, _, h => h.elim
  | r + 1, p, n, ⟨_, ns, _, h⟩ => by omega
theorem F2.len {α β : Type} {R : α → β → Prop} : ∀ {a : List α} {b : List β}, F2 R a b → a.length = b.length
  | [], [], _ => rfl
  | _ :: _, _ :: _, h => by rw [List.length_cons, List.length_cons, F2.len h.2]
  | [], _ :: _, h => h.elim
  | _ :: _, [], h => h.elim
theorem F2.sum {R : P24 → Nat → Prop} (hR : ∀ q n, R q n → 1 ≤ n) : ∀ {a : List P24} {b : List Nat}, F2 R a b → a.length ≤ b.sum
  | [], [], _ => Nat.le_refl _
  | _ :: _, _ :: _, h => by
    have := F2.sum hR h.2
    have := hR _ _ h.1
    rw [List.length_cons, List.sum_cons]; omega
  | [], _ :: _, h => h.elim
  | _ :: _, [], h => h.elim
theorem signs_len (p : Nat) : 1 ≤ (signs p).length ∧ (signs p).length ≤ 2 := by
  unfold signs
  split <;> simp
theorem labT_len (l : List Int) : (labT l).length ≤ 2 * l.length := by
  induction l with
  | nil => exact Nat.le_refl _
  | cons x r ih =>
    have := signs_len x.toNat
    simp only [labT, List.flatMap_cons, List.length_append, List.length_cons] at ih ⊢
    omega
theorem repT_len (l m : Int) : (repT l m).length ≤ 5 := by
  unfold repT
  repeat' split
  all_goals simp
theorem wrapT_len (k least : Int) (t : List Nat) : (wrapT k least t).length ≤ t.length + 2 := by
  unfold wrapT
  split <;> simp
theorem flat_len {R : P24 → Nat → Prop} {f : P24 → List Nat} {c : Nat} (hR : ∀ q n, R q n → (f q).length ≤ c * n) : ∀ {a : List P24} {b : List Nat}, F2 R a b → (a.flatMap f).length ≤ c * b.sum
  | [], [], _ => Nat.zero_le _
  | q :: a, n :: b, h => by
    have h1 := hR _ _ h.1
    have h2 := flat_len hR h.2
    rw [List.flatMap_cons, List.length_append, List.sum_cons, Nat.mul_add]
    omega
  | [], _ :: _, h => h.elim
  | _ :: _, [], h => h.elim
theorem txt_len : ∀ (r : Nat) (p : S24) (n : Nat), Gd r p n → (txt r p).length + 3 ≤ 700 * n
  | 0, _, _, h => h.elim
  | r + 1, p, n, ⟨hok, ns, hs, hn⟩ => by
    have ih : ∀ (q : P24) (k : Nat), Gd r q.vw k → (txt r q.vw).length + 3 ≤ 700 * k := fun q k h => txt_len r q.vw k h
    have hlab : (labT p.fLabels).length ≤ 600 := by have := labT_len p.fLabels; have := hok.1.1; omega
    have hsum := F2.sum (R := fun q k => Gd r (P24.vw q) k) (fun q k h => h.pos) hs
    have hw : ∀ (least : Int) (q : P24) (k : Nat), Gd r q.vw k → (wrapT q.vw.fKind least (txt r q.vw)).length + 1 ≤ 700 * k := by
      intro least q k h
      have := wrapT_len q.vw.fKind least (txt r q.vw)
      have := ih q k h
      omega
    unfold txt
    split
    · simp; omega
    · split
      · split
        · omega
        · simp only [List.length_cons, List.length_append, List.length_nil]; omega
      · split
        · have := flat_len (R := fun q k => Gd r (P24.vw q) k) (f := fun q => wrapT q.vw.fKind 4 (txt r q.vw)) (c := 700) (fun q k h => by have := hw 4 q k h; omega) hs
          omega
        · split
          · have key : ∀ {a : List P24} {b : List Nat}, F2 (fun q k => Gd r (P24.vw q) k) a b → (sepT (a.map fun q => wrapT q.vw.fKind 2 (txt r q.vw))).length ≤ 700 * b.sum := by
              intro a b h
              cases a with
              | nil => exact Nat.zero_le _
              | cons q a =>
                cases b with
                | nil => exact h.elim
                | cons k b =>
                  have h1 := hw 2 q k h.1
                  have h2 : ∀ {a : List P24} {b : List Nat}, F2 (fun q k => Gd r (P24.vw q) k) a b → ((a.map fun q => wrapT q.vw.fKind 2 (txt r q.vw)).flatMap fun y => 124 :: y).length ≤ 700 * b.sum := by
                    intro a
                    induction a with
                    | nil => intro b _; exact Nat.zero_le _
                    | cons q a iha =>
                      intro b h
                      cases b with
                      | nil => exact h.elim
                      | cons k b =>
                        have h1 := hw 2 q k h.1
                        have h2 := iha h.2
                        simp only [List.map_cons, List.flatMap_cons, List.length_append, List.length_cons, List.sum_cons] at h2 ⊢
                        omega
                  have h2 := h2 h.2
                  simp only [List.map_cons, sepT, List.length_append, List.sum_cons, List.length_cons] at h2 ⊢
                  omega
            have h1 := key hs
            have h2 := hs.len
            omega
          · split
            · simp; omega
            · rename_i q s hqs
              rw [hqs] at hs
              cases ns with
              | nil => exact hs.elim
              | cons k ns =>
                have h1 := hw 4 q k hs.1
                have h1' := hw 2 q k hs.1
                have h3 := repT_len p.fLeast p.fMost
                rw [List.sum_cons] at hn
                split
                · rw [List.length_append]; omega
                · split
                  · simp; omega
                  · rename_i q' t
                    cases ns with
                    | nil => exact hs.2.elim
                    | cons k' ns =>
                      have h2 := hw 3 q' k' hs.2.1
                      rw [List.sum_cons] at hn
                      rw [List.length_append, List.length_cons]
                      omega
theorem tight_len {r : Nat} {p : S24} {n : Nat} (least : Int) (h : Gd r p n) : (tight r p least).length ≤ 700 * n := by
  have := wrapT_len p.fKind least (txt r p)
  have := txt_len r p n h
  unfold tight
  omega
end Go.Abs
