/-
  GUESS: Rank, the pure part: the best guesses, whatever order they come in; their order.
-/
import Derived.Test.YtgieobehohljnaaDoorGB
import Derived.Test.YtgieobehohljnaaDoorShelf
import Derived.Shelf.SlSortCmp.NoneTotal
section
namespace Go.Abs
open Go.Sort Go.Proofs
set_option linter.unusedVariables false

theorem beqB {a b : ByteArray} : (a.toList == b.toList) = true ↔ a = b := by
  rw [← beq_toListBytes]; exact MapKept.bytes_beq a b
theorem beqB' {a b : ByteArray} : (a.toList == b.toList) = false ↔ a ≠ b := by
  rw [← Bool.not_eq_true, beqB]

/-! ### the best guesses so far -/
def putG (x : S44) : List S44 → List S44
  | [] => [x]
  | y :: r => if x.fTag.toList == y.fTag.toList then x :: r else y :: putG x r
/-- a list holds just these, each tag once -/
def BInv (l : List S44) (p : S44 → Prop) : Prop := (l.map (·.fTag)).Nodup ∧ ∀ x, x ∈ l ↔ p x
def updP (p : S44 → Prop) (z : S44) : S44 → Prop := fun x => x = z ∨ (p x ∧ x.fTag ≠ z.fTag)
theorem putG_tags (x : S44) : ∀ (l : List S44) t, t ∈ (putG x l).map (·.fTag) ↔ t = x.fTag ∨ t ∈ l.map (·.fTag)
  | [], t => by simp [putG]
  | y :: r, t => by
    simp only [putG]
    split
    · rename_i h
      have := beqB.1 h
      simp [this]
    · simp only [List.map_cons, List.mem_cons, putG_tags x r t]
      constructor
      · rintro (h | h | h)
        · exact .inr (.inl h)
        · exact .inl h
        · exact .inr (.inr h)
      · rintro (h | h | h)
        · exact .inr (.inl h)
        · exact .inl h
        · exact .inr (.inr h)
theorem putG_nodup (x : S44) : ∀ (l : List S44), (l.map (·.fTag)).Nodup → ((putG x l).map (·.fTag)).Nodup
  | [], _ => by simp [putG]
  | y :: r, h => by
    simp only [List.map_cons, List.nodup_cons] at h
    simp only [putG]
    split
    · rename_i hx
      have := beqB.1 hx
      simp only [List.map_cons, List.nodup_cons, this]
      exact h
    · rename_i hx
      have hne := beqB'.1 (by simpa using hx)
      simp only [List.map_cons, List.nodup_cons, putG_tags]
      refine ⟨?_, putG_nodup x r h.2⟩
      rintro (e | e)
      · exact hne e.symm
      · exact h.1 e
theorem putG_mem (x : S44) : ∀ (l : List S44), (l.map (·.fTag)).Nodup → ∀ z, z ∈ putG x l ↔ z = x ∨ (z ∈ l ∧ z.fTag ≠ x.fTag)
  | [], _, z => by simp [putG]
  | y :: r, h, z => by
    simp only [List.map_cons, List.nodup_cons] at h
    simp only [putG]
    split
    · rename_i hx
      have he := beqB.1 hx
      simp only [List.mem_cons]
      constructor
      · rintro (e | e)
        · exact .inl e
        · refine .inr ⟨.inr e, fun e2 => h.1 ?_⟩
          rw [← he, ← e2]; exact List.mem_map_of_mem e
      · rintro (e | ⟨e | e, e2⟩)
        · exact .inl e
        · subst e; exact absurd he.symm e2
        · exact .inr e
    · rename_i hx
      have hne := beqB'.1 (by simpa using hx)
      simp only [List.mem_cons, putG_mem x r h.2 z]
      constructor
      · rintro (e | e | ⟨e, e2⟩)
        · subst e; exact .inr ⟨.inl rfl, fun e => hne e.symm⟩
        · exact .inl e
        · exact .inr ⟨.inr e, e2⟩
      · rintro (e | ⟨e | e, e2⟩)
        · exact .inr (.inl e)
        · exact .inl e
        · exact .inr (.inr ⟨e, e2⟩)
theorem BInv.put {l : List S44} {p : S44 → Prop} (h : BInv l p) (x : S44) : BInv (putG x l) (updP p x) :=
  ⟨putG_nodup x l h.1, fun z => by rw [putG_mem x l h.1 z, h.2 z]; rfl⟩
theorem BInv.congr {l : List S44} {p q : S44 → Prop} (h : BInv l p) (e : ∀ x, p x ↔ q x) : BInv l q := ⟨h.1, fun x => (h.2 x).trans (e x)⟩
theorem nodup_of_map {α β : Type} {f : α → β} : ∀ {l : List α}, (l.map f).Nodup → l.Nodup
  | [], _ => List.nodup_nil
  | x :: r, h => by
    simp only [List.map_cons, List.nodup_cons] at h ⊢
    exact ⟨fun hm => h.1 (List.mem_map_of_mem hm), nodup_of_map h.2⟩
theorem perm_of_nodup {α : Type} : ∀ {l l' : List α}, l.Nodup → l'.Nodup → (∀ x, x ∈ l ↔ x ∈ l') → l.Perm l'
  | [], l', _, _, h => by
    cases l' with
    | nil => exact .nil
    | cons y r => exact absurd ((h y).2 List.mem_cons_self) (by simp)
  | x :: r, l', hn, hn', h => by
    obtain ⟨a, b, rfl⟩ := List.append_of_mem ((h x).1 List.mem_cons_self)
    simp only [List.nodup_cons] at hn
    have hn2 : (x :: (a ++ b)).Nodup := (List.perm_middle (a := x) (l₁ := a) (l₂ := b)).nodup_iff.1 hn'
    simp only [List.nodup_cons] at hn2
    refine (List.Perm.cons x (perm_of_nodup hn.2 hn2.2 fun y => ?_)).trans List.perm_middle.symm
    have hy := h y
    simp only [List.mem_cons, List.mem_append] at hy ⊢
    constructor
    · intro hm
      have hne : y ≠ x := fun e => hn.1 (e ▸ hm)
      rcases hy.1 (.inr hm) with e | e | e
      · exact .inl e
      · exact absurd e hne
      · exact .inr e
    · intro hm
      have hne : y ≠ x := fun e => hn2.1 (by rw [← e]; simpa using hm)
      have : y ∈ a ∨ y = x ∨ y ∈ b := by
        rcases hm with e | e
        · exact .inl e
        · exact .inr (.inr e)
      rcases hy.2 this with e | e
      · exact absurd e hne
      · exact e
theorem BInv.perm {l l' : List S44} {p : S44 → Prop} (h : BInv l p) (h' : BInv l' p) : l.Perm l' :=
  perm_of_nodup (nodup_of_map h.1) (nodup_of_map h'.1) fun x => (h.2 x).trans (h'.2 x).symm

/-! ### the order of guesses -/
def cmpI (x y : Int) : Int := if x < y then -1 else if x > y then 1 else 0
def cmpB (x y : ByteArray) : Int := if Op.bytesLess x.toList y.toList then -1 else if !(Op.bytesLess x.toList y.toList || x.toList == y.toList) then 1 else 0
def cmpG (a b : S44) : Int := if cmpI b.fLength a.fLength ≠ 0 then cmpI b.fLength a.fLength else if cmpI b.fCount a.fCount ≠ 0 then cmpI b.fCount a.fCount else cmpB a.fTag b.fTag
theorem f26_eq (m : Nat) (x y : Int) : f26 m x y = some (cmpI x y) := by
  have h : ∀ z : Int, f38 m z = some false := fun z => by unfold f38; simp
  unfold f26 cmpI
  simp only [h, bnd, cnd]
  by_cases h1 : x < y
  · simp [h1]
  · by_cases h2 : x > y <;> simp [h1, h2]
theorem f27_eq (m : Nat) (x y : ByteArray) : f27 m x y = some (cmpB x y) := by
  have h : ∀ z : ByteArray, f39 m z = some false := fun z => by unfold f39; simp
  unfold f27 cmpB
  simp only [h, bnd, cnd]
  by_cases h1 : Op.bytesLess x.toList y.toList = true
  · simp [h1]
  · have h1 : Op.bytesLess x.toList y.toList = false := by simpa using h1
    by_cases h2 : (x.toList == y.toList) = true <;> simp [h1, h2]
theorem f24_eq (m : Nat) (hm : 10 ≤ m) (a b : S44) : f24 m a b = some (cmpG a b) := by
  unfold f24
  simp only [f26_eq, f27_eq, bnd]
  unfold cmpG
  generalize cmpI b.fLength a.fLength = u
  generalize cmpI b.fCount a.fCount = v
  generalize cmpB a.fTag b.fTag = w
  obtain ⟨m, rfl⟩ : ∃ q, m = q + 4 := ⟨m - 4, by omega⟩
  unfold f25
  by_cases hu : u = 0
  · by_cases hv : v = 0
    · by_cases hz : w = 0
      · simp [iter, f25_B1, idx, cnd, bnd, brk, hu, hv, hz, w64, IntKind.wrap, IntKind.bits, IntKind.signed]
      · have hz' : (w != 0) = true := by simpa using hz
        simp [iter, f25_B1, idx, cnd, bnd, brk, hu, hv, hz', w64, IntKind.wrap, IntKind.bits, IntKind.signed]
    · have hv' : (v != 0) = true := by simpa using hv
      simp [iter, f25_B1, idx, cnd, bnd, brk, hu, hv, hv', w64, IntKind.wrap, IntKind.bits, IntKind.signed]
  · have hu' : (u != 0) = true := by simpa using hu
    simp [iter, f25_B1, idx, cnd, bnd, brk, hu, hu']

/-! ### 'less' is a strict order, and parts whatever is not one -/
abbrev bls (a b : List UInt8) : Bool := Op.bytesLess a b
theorem u8_lt {a b : UInt8} : (decide (a < b) = true) ↔ a.toNat < b.toNat := by simp [UInt8.lt_iff_toNat_lt]
theorem bls_irrefl : ∀ l, bls l l = false
  | [] => rfl
  | a :: l => by
    have := bls_irrefl l
    simp only [bls, Op.bytesLess] at this ⊢
    simp [this]
theorem bls_trans : ∀ {a b c : List UInt8}, bls a b = true → bls b c = true → bls a c = true
  | _, _, [], _, h => by simp [bls, Op.bytesLess] at h
  | [], _, _ :: _, _, _ => by simp [bls, Op.bytesLess]
  | x :: a, [], z :: c, h, _ => by simp [bls, Op.bytesLess] at h
  | x :: a, y :: b, z :: c, h, g => by
    simp only [bls, Op.bytesLess, Bool.or_eq_true, Bool.and_eq_true, beq_iff_eq, u8_lt] at h g ⊢
    rcases h with h | ⟨rfl, h⟩
    · rcases g with g | ⟨rfl, g⟩
      · exact .inl (by omega)
      · exact .inl h
    · rcases g with g | ⟨rfl, g⟩
      · exact .inl g
      · exact .inr ⟨rfl, bls_trans h g⟩
theorem bls_tri : ∀ (a b : List UInt8), bls a b = true ∨ a = b ∨ bls b a = true
  | [], [] => .inr (.inl rfl)
  | [], _ :: _ => .inl rfl
  | _ :: _, [] => .inr (.inr rfl)
  | x :: a, y :: b => by
    simp only [bls, Op.bytesLess, Bool.or_eq_true, Bool.and_eq_true, beq_iff_eq, u8_lt]
    rcases Nat.lt_trichotomy x.toNat y.toNat with h | h | h
    · exact .inl (.inl h)
    · have hxy : x = y := UInt8.toNat_inj.1 h
      subst hxy
      rcases bls_tri a b with h | h | h
      · exact .inl (.inr ⟨rfl, h⟩)
      · exact .inr (.inl (by rw [h]))
      · exact .inr (.inr (.inr ⟨rfl, h⟩))
    · exact .inr (.inr (.inl h))
theorem bls_asymm {a b : List UInt8} (h : bls a b = true) : bls b a = false := by
  cases hq : bls b a with
  | false => rfl
  | true => have := bls_trans h hq; rw [bls_irrefl] at this; cases this
theorem ltG_iff (a b : S44) : ltOf cmpG a b = true ↔ b.fLength < a.fLength ∨ (a.fLength = b.fLength ∧ (b.fCount < a.fCount ∨ (a.fCount = b.fCount ∧ bls a.fTag.toList b.fTag.toList = true))) := by
  obtain ⟨at', al, ac⟩ := a
  obtain ⟨bt, bl, bc⟩ := b
  simp only [ltOf, decide_eq_true_eq, cmpG, cmpI, cmpB]
  rcases Int.lt_trichotomy bl al with h1 | h1 | h1
  · simp [h1]
  · subst h1
    simp only [Int.lt_irrefl, if_false, gt_iff_lt, ne_eq, not_true, false_or, true_and]
    rcases Int.lt_trichotomy bc ac with h2 | h2 | h2
    · simp [h2]
    · subst h2
      simp only [Int.lt_irrefl, if_false, gt_iff_lt, not_true, false_or, true_and, bls]
      by_cases h3 : Op.bytesLess at'.toList bt.toList = true
      · simp [h3]
      · simp only [h3, Bool.false_eq_true, if_false]
        have h3 : Op.bytesLess at'.toList bt.toList = false := by simpa using h3
        simp only [h3, Bool.false_or, iff_false]
        split <;> omega
    · have h3 : ¬ bc < ac := by omega
      have h4 : ac ≠ bc := by omega
      simp [h2, h3, h4]
  · have h3 : ¬ bl < al := by omega
    have h4 : al ≠ bl := by omega
    simp [h1, h3, h4]
theorem ltG_false (a b : S44) : ltOf cmpG a b = false ↔ a.fLength < b.fLength ∨ (a.fLength = b.fLength ∧ (a.fCount < b.fCount ∨ (a.fCount = b.fCount ∧ bls a.fTag.toList b.fTag.toList = false))) := by
  rw [← Bool.not_eq_true, ltG_iff, ← Bool.not_eq_true]
  generalize bls a.fTag.toList b.fTag.toList = z
  constructor
  · intro h
    rcases Int.lt_trichotomy a.fLength b.fLength with h1 | h1 | h1
    · exact .inl h1
    · refine .inr ⟨h1, ?_⟩
      rcases Int.lt_trichotomy a.fCount b.fCount with h2 | h2 | h2
      · exact .inl h2
      · exact .inr ⟨h2, fun hz => h (.inr ⟨h1, .inr ⟨h2, hz⟩⟩)⟩
      · exact absurd (.inr ⟨h1, .inl h2⟩) h
    · exact absurd (.inl h1) h
  · rintro (h | ⟨h1, h | ⟨h2, h⟩⟩) (g | ⟨g1, g | ⟨g2, g⟩⟩) <;> first | omega | exact h g
theorem bls_ntrans {a b c : List UInt8} (h : bls a b = false) (g : bls b c = false) : bls a c = false := by
  cases hq : bls a c with
  | false => rfl
  | true =>
    rcases bls_tri a b with h1 | h1 | h1
    · rw [h] at h1; cases h1
    · subst h1; rw [hq] at g; cases g
    · have := bls_trans h1 hq; rw [g] at this; cases this
theorem swoG : SWO (ltOf cmpG) := by
  refine ⟨fun x => ?_, fun x y z h g => ?_, fun x y z h g => ?_⟩
  · rw [ltG_false]
    exact .inr ⟨rfl, .inr ⟨rfl, bls_irrefl _⟩⟩
  · rw [ltG_iff] at *
    rcases h with h | ⟨h1, h | ⟨h2, h⟩⟩ <;> rcases g with g | ⟨g1, g | ⟨g2, g⟩⟩
    · exact .inl (by omega)
    · exact .inl (by omega)
    · exact .inl (by omega)
    · exact .inl (by omega)
    · exact .inr ⟨by omega, .inl (by omega)⟩
    · exact .inr ⟨by omega, .inl (by omega)⟩
    · exact .inl (by omega)
    · exact .inr ⟨by omega, .inl (by omega)⟩
    · exact .inr ⟨by omega, .inr ⟨by omega, bls_trans h g⟩⟩
  · rw [ltG_false] at *
    rcases h with h | ⟨h1, h | ⟨h2, h⟩⟩ <;> rcases g with g | ⟨g1, g | ⟨g2, g⟩⟩
    · exact .inl (by omega)
    · exact .inl (by omega)
    · exact .inl (by omega)
    · exact .inl (by omega)
    · exact .inr ⟨by omega, .inl (by omega)⟩
    · exact .inr ⟨by omega, .inl (by omega)⟩
    · exact .inl (by omega)
    · exact .inr ⟨by omega, .inl (by omega)⟩
    · exact .inr ⟨by omega, .inr ⟨by omega, bls_ntrans h g⟩⟩
theorem totG (x y : S44) (h : ltOf cmpG x y = false) (g : ltOf cmpG y x = false) : x = y := by
  rw [ltG_false] at *
  have e1 : x.fLength = y.fLength := by rcases h with h | ⟨h, _⟩ <;> rcases g with g | ⟨g, _⟩ <;> omega
  have e2 : x.fCount = y.fCount := by
    rcases h with h | ⟨_, h | ⟨h, _⟩⟩ <;> rcases g with g | ⟨_, g | ⟨g, _⟩⟩ <;> omega
  have e3 : x.fTag = y.fTag := by
    rcases h with h | ⟨_, h | ⟨_, h⟩⟩
    · omega
    · omega
    rcases g with g | ⟨_, g | ⟨_, g⟩⟩
    · omega
    · omega
    rcases bls_tri x.fTag.toList y.fTag.toList with q | q | q
    · rw [h] at q; cases q
    · exact beqB.1 (by simp [q])
    · rw [g] at q; cases q
  cases x; cases y
  simp only at e1 e2 e3
  subst e1 e2 e3
  rfl
def leG (a b : S44) : Bool := !(ltOf cmpG b a)
def srtG (l : List S44) : List S44 := l.mergeSort leG
theorem srtG_perm (l : List S44) : (srtG l).Perm l := List.mergeSort_perm l leG
theorem srtG_sorted (l : List S44) : (srtG l).Pairwise fun a b => ltOf cmpG b a = false := by
  have h := List.pairwise_mergeSort (le := leG) (fun a b c h g => ?_) (fun a b => ?_) l
  · exact h.imp fun {a b} h => by simpa [leG] using h
  · simp only [leG, Bool.not_eq_true'] at *
    exact swoG.ntrans c b a g h
  · simp only [leG, Bool.or_eq_true, Bool.not_eq_true']
    cases hq : ltOf cmpG b a with
    | false => exact .inl rfl
    | true =>
      right
      cases hr : ltOf cmpG a b with
      | false => rfl
      | true => have := swoG.trans a b a hr hq; rw [swoG.irrefl] at this; cases this
theorem srt_uniq : ∀ {l l' : List S44}, l.Perm l' → l.Pairwise (fun a b => ltOf cmpG b a = false) → l'.Pairwise (fun a b => ltOf cmpG b a = false) → l = l'
  | [], l', h, _, _ => (List.nil_perm.1 h).symm
  | x :: r, [], h, _, _ => absurd h.length_eq (by simp)
  | x :: r, y :: s, h, h1, h2 => by
    have a1 := List.pairwise_cons.1 h1
    have a2 := List.pairwise_cons.1 h2
    have hxy : x = y := by
      rcases List.mem_cons.1 (h.mem_iff.1 (List.mem_cons_self (a := x) (l := r))) with e | hx
      · exact e
      · rcases List.mem_cons.1 (h.mem_iff.2 (List.mem_cons_self (a := y) (l := s))) with e | hy
        · exact e.symm
        · exact totG x y (a2.1 x hx) (a1.1 y hy)
    subst hxy
    rw [srt_uniq (List.Perm.cons_inv h) a1.2 a2.2]
theorem srtG_hsrt (l l' : List S44) (h : l'.Perm l) (hs : l'.Pairwise fun a b => ltOf cmpG b a = false) : l' = srtG l :=
  srt_uniq (h.trans (srtG_perm l).symm) hs (srtG_sorted l)
theorem srtG_congr {l l' : List S44} (h : l.Perm l') : srtG l = srtG l' := srt_uniq ((srtG_perm l).trans (h.trans (srtG_perm l').symm)) (srtG_sorted l) (srtG_sorted l')
end Go.Abs
end
section
namespace Go.Abs
open Go.Sort Go.Proofs
set_option linter.unusedVariables false
set_option maxRecDepth 100000

theorem cmp24 : CmpOk Proofs.Tryd.prog 24 e44 cmpG := by
  intro x y S w us hrel hs hg
  obtain ⟨d, h', h1, h2⟩ := ok24 10 x y (cmpG x y) (f24_eq 10 (Nat.le_refl _) x y) 13 (by omega)
  refine ((pureCalls (good0 (DR := True)) (xs := [e44 x, e44 y]) h1 h2).2 S w us hrel hs hg).mono ?_
  rintro e w' ⟨v, S', rfl, hE, _, hR⟩
  cases hR
  exact ⟨rfl, S', hE⟩
def decG : V → Option S44
  | .agg [.str t, .int .i64 l, .int .i64 c] => some ⟨t, l, c⟩
  | _ => none
theorem decG_spec {v : V} {a : S44} (h : decG v = some a) : v = e44 a := by
  unfold decG at h
  split at h
  · cases h; rfl
  · cases h
theorem decG_e (a : S44) : decG (e44 a) = some a := rfl
theorem is23 : Is Proofs.Tryd.prog 23 := ⟨Proofs.Tryd.f23, Proofs.Tryd.func23, by kernel_rfl, by kernel_rfl⟩
theorem sort23 : DOk False Proofs.Tryd.prog 23 (sortFnF 3 24 decG e44 srtG) :=
  sortFn_sound is23 cmpG cmp24 swoG (fun _ _ h => decG_spec h) (by decide) (fun a => ⟨_, rfl, rfl, rfl⟩)
    (fun enc' cf' blk off cap d w hk h1 hO hc hH hb hs => AnyQ.slices_SortFunc Tryd.laysSF 3 (fun w => by kernel_rfl) (fun w => by kernel_rfl) enc' hk h1 cf' hO 24 #[] blk off cap d w (enters_of Proofs.Tryd.func24 (by kernel_rfl) rfl) hc hH hb hs)
    (fun p cap fv w => AnyF.slices_SortFunc_none Tryd.laysSF p cap fv w) srtG_hsrt

noncomputable def GR (n : Nat) : Calling := fun f ds h => if f = 23 then sortFnF 3 24 decG e44 srtG ds h else run Proofs.Tryd.prog E n f ds h
noncomputable def XR (n : Nat) : Cx := ⟨{ E with rowM := true, pureF := fun f => E.pureF f && f != 23 }, GR n, ⟨fun _ => [], fun _ => [], fun _ => []⟩, [], n⟩
theorem hxR (n : Nat) : Hx False Proofs.Tryd.prog (XR n) := by
  refine ⟨good.mixed, good.types, fun f ds h d h' hd => ?_⟩
  have hd : (if f = 23 then sortFnF 3 24 decG e44 srtG ds h else run Proofs.Tryd.prog E n f ds h) = some (d, h') := hd
  split at hd
  · rename_i e
    subst e
    exact ⟨sort23.1, sort23.2 ds h d h' hd⟩
  · exact run_sound good n f ds h d h' hd
noncomputable def C12 : Code := bodyOf Proofs.Tryd.prog 12

/-! ### what Rank computes, on nodes as values -/
def cntsRaw : List V → List V → Option (List (ByteArray × Int))
  | [], [] => some []
  | .str t :: ks, .int .i64 c :: vs => (cntsRaw ks vs).map ((t, c) :: ·)
  | _, _ => none
theorem cntsRaw_spec : ∀ {ks vs : List V} {l : List (ByteArray × Int)}, cntsRaw ks vs = some l → ks = l.map keyS ∧ vs = l.map (fun x => .int .i64 x.2)
  | [], [], l, h => by cases h; exact ⟨rfl, rfl⟩
  | [], _ :: _, l, h => by cases h
  | k :: ks, vs, l, h => by
    unfold cntsRaw at h
    split at h
    · rename_i h0; cases h0
    · rename_i t ks' c vs' e1
      cases e1
      obtain ⟨r, hr, rfl⟩ := Option.map_eq_some_iff.1 h
      obtain ⟨e1, e2⟩ := cntsRaw_spec hr
      subst e1 e2
      exact ⟨rfl, rfl⟩
    · cases h
def tagsOk (l : List (ByteArray × Int)) : Bool := decide ((l.map (·.1.toList)).Nodup)
def cntsOf (ks vs : List V) : Option (List (ByteArray × Int)) := bnd (cntsRaw ks vs) fun l => cnd (tagsOk l) (some l) none
theorem cntsRaw_e : ∀ l : List (ByteArray × Int), cntsRaw (l.map keyS) (l.map fun x => .int .i64 x.2) = some l
  | [] => rfl
  | x :: r => by simp only [List.map_cons, keyS, cntsRaw, cntsRaw_e r, Option.map_some]
def addC (lvl : Int) (best : List S44) (l : List (ByteArray × Int)) : List S44 := l.foldl (fun b x => putG ⟨x.1, lvl, x.2⟩ b) best
def nextV (ks vs : List V) (x : Int) : Option V := match keyFind T 3 (.int .i64 x) ks 0 with
  | some (some j) => vs[j]?
  | some none => some .nilptr
  | none => none
def walkV : Nat → V → List Int → Int → List S44 → Option (List S44)
  | _, .nilptr, _, _, best => some best
  | d, .ptr [.map ks vs, .map ts cs], rest, lvl, best => bnd (cntsOf ts cs) fun l => match d, rest with
    | 0, _ => some (addC lvl best l)
    | _ + 1, [] => some (addC lvl best l)
    | d + 1, x :: r => bnd (nextV ks vs x) fun n => walkV d n r (lvl + 1) (addC lvl best l)
  | _, _, _, _, _ => none
def rankV (t : V) (w : ByteArray) : Option (List S44 × S27) :=
  bnd (f18 MM w) fun ok => cnd (!ok) (some ([], ⟨5, -1⟩)) (bnd (f21 MM w) fun v => cnd (decide (v.1.length ≤ big62)) (bnd (walkV 5 t v.1.reverse 0 []) fun l => cnd (decide (l.length ≤ 1000000)) (some (srtG l, ⟨0, 0⟩)) none) none)

/-! ### the entries of a node, in whatever order -/
def onC (lvl : Int) (l : List (ByteArray × Int)) (p : S44 → Prop) : S44 → Prop := fun x => (∃ c ∈ l, x = ⟨c.1, lvl, c.2⟩) ∨ (p x ∧ ∀ c ∈ l, x.fTag ≠ c.1)
theorem onC_nil {lvl : Int} {p : S44 → Prop} (x : S44) : p x ↔ onC lvl [] p x := by simp [onC]
theorem onC_snoc {lvl : Int} {l : List (ByteArray × Int)} {c : ByteArray × Int} {p : S44 → Prop} (hn : ∀ y ∈ l, y.1 ≠ c.1) (x : S44) : updP (onC lvl l p) ⟨c.1, lvl, c.2⟩ x ↔ onC lvl (l ++ [c]) p x := by
  unfold updP onC
  constructor
  · rintro (rfl | ⟨⟨y, hy, rfl⟩ | ⟨hp, ha⟩, hne⟩)
    · exact .inl ⟨c, by simp, rfl⟩
    · exact .inl ⟨y, by simp [hy], rfl⟩
    · refine .inr ⟨hp, fun y hy => ?_⟩
      rcases List.mem_append.1 hy with hy | hy
      · exact ha y hy
      · simp at hy; subst hy; exact hne
  · rintro (⟨y, hy, rfl⟩ | ⟨hp, ha⟩)
    · rcases List.mem_append.1 hy with hy | hy
      · exact .inr ⟨.inl ⟨y, hy, rfl⟩, hn y hy⟩
      · simp at hy; subst hy; exact .inl rfl
    · exact .inr ⟨.inr ⟨hp, fun y hy => ha y (List.mem_append_left _ hy)⟩, ha c (by simp)⟩
theorem addC_inv {lvl : Int} : ∀ (r : List (ByteArray × Int)) (l : List (ByteArray × Int)) {best : List S44} {p : S44 → Prop}, ((l ++ r).map (·.1)).Nodup → BInv best (onC lvl l p) → BInv (addC lvl best r) (onC lvl (l ++ r) p)
  | [], l, best, p, _, h => by simpa [addC] using h
  | c :: r, l, best, p, hn, h => by
    have h1 : ∀ y ∈ l, y.1 ≠ c.1 := by
      intro y hy e
      rw [List.map_append, List.map_cons] at hn
      have := (List.nodup_append.1 hn).2.2 y.1 (List.mem_map_of_mem hy) c.1 List.mem_cons_self
      exact this e
    have h2 := (h.put ⟨c.1, lvl, c.2⟩).congr (onC_snoc h1)
    have e : l ++ c :: r = (l ++ [c]) ++ r := by simp
    rw [e] at hn ⊢
    exact addC_inv r (l ++ [c]) hn h2
theorem tags_nodup {l : List (ByteArray × Int)} (h : tagsOk l = true) : (l.map (·.1)).Nodup := by
  have h := of_decide_eq_true h
  refine nodup_of_map (f := ByteArray.toList) ?_
  rw [List.map_map]
  exact h
/-- seen all of them, in some order -/
theorem seen_perm {n : Nat} {seen : List Nat} (h1 : seen.Nodup) (h2 : ∀ j ∈ seen, j < n) (h3 : ∀ j, j < n → j ∈ seen) : seen.Perm (List.range n) :=
  perm_of_nodup h1 List.nodup_range fun x => ⟨fun h => List.mem_range.2 (h2 x h), fun h => h3 x (List.mem_range.1 h)⟩
theorem fm_range {α : Type} (l : List α) : (List.range l.length).filterMap (l[·]?) = l := by
  induction l with
  | nil => rfl
  | cons x r ih =>
    rw [List.length_cons, List.range_succ_eq_map, List.filterMap_cons, List.filterMap_map]
    simp only [List.getElem?_cons_zero]
    congr 1
theorem onC_perm {lvl : Int} {l l' : List (ByteArray × Int)} (h : l.Perm l') {p : S44 → Prop} (x : S44) : onC lvl l p x ↔ onC lvl l' p x := by
  unfold onC
  constructor
  · rintro (⟨c, hc, e⟩ | ⟨hp, ha⟩)
    · exact .inl ⟨c, h.mem_iff.1 hc, e⟩
    · exact .inr ⟨hp, fun c hc => ha c (h.mem_iff.2 hc)⟩
  · rintro (⟨c, hc, e⟩ | ⟨hp, ha⟩)
    · exact .inl ⟨c, h.mem_iff.2 hc, e⟩
    · exact .inr ⟨hp, fun c hc => ha c (h.mem_iff.1 hc)⟩

/-! ### the best guesses in memory -/
def keyT (x : S44) : V := .str x.fTag
def valT (x : S44) : D := .v (e44 x)
theorem put_some {x : S44} : ∀ {l : List S44} {i j : Nat}, fidx (fun y => x.fTag.toList == y.fTag.toList) l i = some j → ∃ q, j = i + q ∧ (l.map keyT).set q (keyT x) = (putG x l).map keyT ∧ (l.map valT).set q (valT x) = (putG x l).map valT
  | [], _, _, h => by cases h
  | y :: r, i, j, h => by
    simp only [fidx] at h
    split at h
    · rename_i hp
      cases h
      refine ⟨0, rfl, ?_, ?_⟩ <;> simp [putG, hp]
    · rename_i hp
      obtain ⟨q, h1, h2, h3⟩ := put_some h
      refine ⟨q + 1, by omega, ?_, ?_⟩
      · simp [putG, hp, h2]
      · simp [putG, hp, h3]
theorem put_none {x : S44} : ∀ {l : List S44} {i : Nat}, fidx (fun y => x.fTag.toList == y.fTag.toList) l i = none → putG x l = l ++ [x]
  | [], _, _ => rfl
  | y :: r, i, h => by
    simp only [fidx] at h
    split at h
    · cases h
    · rename_i hp
      simp [putG, hp, put_none h]
theorem muG {h : List AObj} {b : Nat} {l : List S44} (hb : h[b]? = some (.map (l.map keyT) (l.map valT))) (x : S44) : (mapSetD T h 56 (.map b) (.v (.str x.fTag)) (valT x)).map (U, ·) = some (U, h.set b (.map ((putG x l).map keyT) ((putG x l).map valT))) := by
  have e : mapSetD T h 56 (.map b) (.v (.str x.fTag)) (valT x) = (match h[b]? with
      | some (.map ks vs) => (match keyFind T 9 (.str x.fTag) ks 0 with
          | none => none
          | some (some j) => some (h.set b (.map (ks.set j (.str x.fTag)) (vs.set j (valT x))))
          | some none => some (h.set b (.map (ks ++ [.str x.fTag]) (vs ++ [valT x]))))
      | _ => none) := rfl
  have hf : keyFind T 9 (.str x.fTag) (l.map keyT) 0 = some (fidx (fun y : S44 => x.fTag.toList == y.fTag.toList) l 0) := find_str (fun y : S44 => y.fTag) x.fTag l 0
  rw [e]
  simp only [hb, hf]
  cases hx : fidx (fun y : S44 => x.fTag.toList == y.fTag.toList) l 0 with
  | none => rw [put_none hx]; simp only [Option.map_some, List.map_append, List.map_cons, List.map_nil, keyT]
  | some j =>
    obtain ⟨q, rfl, h3, h4⟩ := put_some hx
    simp only [Nat.zero_add, ← h3, ← h4, Option.map_some, keyT]
end Go.Abs
end
section
namespace Go.Abs
open Go.Sort Go.Proofs
set_option linter.unusedVariables false
set_option maxRecDepth 100000

noncomputable def L0 : Code := (cL (cR (cL (cR (cR (cR (cR (cR C12))))))))
noncomputable def B1 : Code := (cL (cL (cR (cL L0))))
noncomputable def M2 : Code := (cL (cR (cL B1)))
structure HR (H : List AObj) (best : List S44) : Prop where
  c1 : H[1]? = some (.cells [dI 0, dI 0])
  c3 : H[3]? = some (.map (best.map keyT) (best.map valT))
theorem HR.app {H : List AObj} {best : List S44} (h : HR H best) (e : List AObj) : HR (H ++ e) best := ⟨app_get h.c1, app_get h.c3⟩
theorem HR.set {H : List AObj} {best : List S44} (h : HR H best) {q : Nat} (h1 : q ≠ 1) (h3 : q ≠ 3) (o : AObj) : HR (H.set q o) best :=
  ⟨by rw [List.getElem?_set_ne h1]; exact h.c1, by rw [List.getElem?_set_ne h3]; exact h.c3⟩
theorem HR.upd {H : List AObj} {best best' : List S44} (h : HR H best) : HR (H.set 3 (.map (best'.map keyT) (best'.map valT))) best' :=
  ⟨by rw [List.getElem?_set_ne (by decide)]; exact h.c1, by rw [List.getElem?_set_self (lt_of_getElem? h.c3)]⟩
theorem HR.ne {H : List AObj} {best : List S44} (h : HR H best) {q s t : Nat} {m : D} {seen : List Nat} (hq : H[q]? = some (.iter m s seen t)) : q ≠ 1 ∧ q ≠ 3 :=
  ⟨(fun e => by subst e; rw [h.c1] at hq; cases hq), (fun e => by subst e; rw [h.c3] at hq; cases hq)⟩

theorem len_seen {n : Nat} {seen : List Nat} (h1 : seen.Nodup) (h2 : ∀ j ∈ seen, j < n) : seen.length ≤ n := by
  have hp : seen.Perm ((List.range n).filter fun j => decide (j ∈ seen)) := perm_of_nodup h1 (List.nodup_range.filter _) fun x => by
    simp only [List.mem_filter, List.mem_range, decide_eq_true_eq]
    exact ⟨fun h => ⟨h2 x h, h⟩, fun h => h.2⟩
  rw [hp.length_eq]
  exact Nat.le_trans (List.length_filter_le _ _) (by simp)
theorem nodup_snoc {seen : List Nat} {j : Nat} (h : seen.Nodup) (hj : j ∉ seen) : (seen ++ [j]).Nodup := by
  rw [List.nodup_append]
  exact ⟨h, by simp, fun a ha b hb e => by simp at hb; subst hb; exact hj (e ▸ ha)⟩
theorem fm_snoc {α : Type} {l : List α} {j : Nat} {c : α} (h : l[j]? = some c) (seen : List Nat) : (seen ++ [j]).filterMap (l[·]?) = seen.filterMap (l[·]?) ++ [c] := by simp [List.filterMap_append, h]
theorem fm_all {α : Type} (l : List α) {seen : List Nat} (h1 : seen.Nodup) (h2 : ∀ j ∈ seen, j < l.length) (h3 : ∀ j, j < l.length → j ∈ seen) : (seen.filterMap (l[·]?)).Perm l := by
  have := (seen_perm h1 h2 h3).filterMap (l[·]?)
  rwa [fm_range] at this
theorem fm_ne {l : List (ByteArray × Int)} (ht : (l.map (·.1)).Nodup) {seen : List Nat} {j : Nat} {c : ByteArray × Int} (hc : l[j]? = some c) (hj : j ∉ seen) : ∀ y ∈ seen.filterMap (l[·]?), y.1 ≠ c.1 := by
  intro y hy e
  obtain ⟨i, hi, hy⟩ := List.mem_filterMap.1 hy
  have hne : i ≠ j := fun e => hj (e ▸ hi)
  obtain ⟨hil, rfl⟩ := List.getElem?_eq_some_iff.1 hy
  obtain ⟨hjl, rfl⟩ := List.getElem?_eq_some_iff.1 hc
  have hp := List.pairwise_iff_getElem.1 ht
  rcases Nat.lt_or_gt_of_ne hne with h | h
  · exact hp i j (by simpa using hil) (by simpa using hjl) h (by simpa using e)
  · exact hp j i (by simpa using hjl) (by simpa using hil) h (by simpa using e.symm)

abbrev kL : List Nat := [4, 5, 6, 8, 9, 10]
abbrev kI : List Nat := [4, 5, 6, 8, 9, 10, 36]
def SmL (ls : V) (node : V) (lvl : Int) (H : List AObj) : St := Sm 80 [(4, .v (.sl .nil [])), (5, .ptr 1 0), (6, .v ls), (8, .map 3), (9, .v node), (10, dI lvl)] H
def SmI (ls : V) (node : V) (lvl : Int) (q : Nat) (H : List AObj) : St := Sm 80 [(4, .v (.sl .nil [])), (5, .ptr 1 0), (6, .v ls), (8, .map 3), (9, .v node), (10, dI lvl), (36, .ptr q 0)] H
theorem rgD (h : List AObj) (l : List (ByteArray × Int)) : rangeD T h 53 (.v (cntsV l)) = some (.ptr h.length 0, h ++ [.iter (.v (cntsV l)) (l.map keyS).length [] (l.map keyS).length]) := rfl
theorem enD {h : List AObj} {q since j : Nat} {seen : List Nat} {l : List (ByteArray × Int)} {c : ByteArray × Int} (hq : h[q]? = some (.iter (.v (cntsV l)) since (seen ++ [j]) (l.map keyS).length)) (hc : l[j]? = some c) : (entryD h (.ptr q 0)).map (·, h) = some (.v (.tuple [.str c.1, .int .i64 c.2]), h) := by
  have hk : mapKV h (.v (cntsV l)) = some (l.map keyS, (l.map fun x => V.int .i64 x.2).map .v) := rfl
  have hn : isNilM (.v (cntsV l)) = some false := rfl
  simp only [entryD, hq, List.getLast?_append, List.getLast?_singleton, Option.some_or, hk, hn, if_true, List.getElem?_map, hc, Option.map_some]
  rfl

theorem entries12 (n : Nat) (ls : V) (ks vs : List V) (l : List (ByteArray × Int)) (ht : tagsOk l = true) (lvl : Int) (p : S44 → Prop) (H : List AObj) (best : List S44) (hH : HR H best) (hb : BInv best p) {Q : Post}
    (hq : ∀ H' best', HR H' best' → BInv best' (onC lvl l p) → ∀ σ, Abs.forget kL σ = SmL ls (.ptr [.map ks vs, cntsV l]) lvl H' → Q .normal σ) :
    Ht False Proofs.Tryd.prog (cL B1) (SmL ls (.ptr [.map ks vs, cntsV l]) lvl H) Q := by
  refine Ht.seq (by kernel_rfl) ?_
  refine Ht.region (hxR n) (by kernel_rfl) ?_
  refine Ops.seg' 4 4 (by kernel_rfl) ?_
  refine Ops.one' 5 (fun h0 e0 => rgD h0 l) (by kernel_rfl) (by kernel_rfl) ?_
  refine Ops.done (by kernel_rfl) ?_
  refine seqH.n ?_
  refine Ht.block 2 (by kernel_rfl) ?_
  refine Ht.forget kI (Ht.st (σ' := SmI ls (.ptr [.map ks vs, cntsV l]) lvl H.length (H ++ [.iter (.v (cntsV l)) (l.map keyS).length [] (l.map keyS).length])) (by kernel_rfl) ?_)
  generalize hqq : H.length = q
  have hit0 : (H ++ [AObj.iter (.v (cntsV l)) (l.map keyS).length [] (l.map keyS).length])[q]? = some (.iter (.v (cntsV l)) (l.map keyS).length [] (l.map keyS).length) := by
    subst hqq; simp
  have hH0 := hH.app [AObj.iter (.v (cntsV l)) (l.map keyS).length [] (l.map keyS).length]
  generalize H ++ [AObj.iter (.v (cntsV l)) (l.map keyS).length [] (l.map keyS).length] = H1 at hit0 hH0
  have htn := tags_nodup ht
  refine Ht.loop (fun k σ => ∃ (seen : List Nat) (H : List AObj) (best : List S44), k = l.length - seen.length ∧ seen.Nodup ∧ (∀ j ∈ seen, j < l.length) ∧ Abs.forget kI σ = SmI ls (.ptr [.map ks vs, cntsV l]) lvl q H ∧ H[q]? = some (.iter (.v (cntsV l)) (l.map keyS).length seen (l.map keyS).length) ∧ HR H best ∧ BInv best (onC lvl (seen.filterMap (l[·]?)) p))
    l.length (by kernel_rfl) ⟨[], H1, best, rfl, List.nodup_nil, (fun j hj => by cases hj), by kernel_rfl, hit0, hH0, hb.congr fun x => onC_nil x⟩ ?_
  clear hit0 hH0 hqq hH hb H1 best H
  rintro k σ ⟨seen, H, best, rfl, hnd, hlt, hσ, hit, hH, hb⟩
  refine Ht.forget kI (Ht.st hσ ?_)
  clear hσ
  refine Ht.seq (by kernel_rfl) ?_
  refine Ht.next (hxR n) (it := 36) (t := 37) (u := 38) (r := q) (since := (l.map keyS).length) (last := (l.map keyS).length) (seen := seen) (m := .v (cntsV l)) (ks := l.map keyS) (vs := (l.map fun x => V.int .i64 x.2).map .v) (by kernel_rfl) (by kernel_rfl) hit rfl (Nat.le_refl _) (Nat.le_refl _) (by simp [SmI, Sm]) (fun hall => ?_) (fun j kk d hj hk hd => ?_)
  · refine seqH.n ?_
    refine Ht.seq (by kernel_rfl) ?_
    refine Ht.cond false (by kernel_rfl) (by kernel_rfl) (fun h => nomatch h) (fun _ => ?_)
    refine Ht.exit (id := 2) (by kernel_rfl) ?_
    show blkH 2 Q (.exit 2) _
    have hp := fm_all l hnd hlt fun j hj => hall j (by simpa using hj)
    exact blkH.x (hq H best hH (hb.congr fun x => onC_perm hp x) _ (by kernel_rfl))
  · obtain ⟨c, hc, rfl⟩ : ∃ c, l[j]? = some c ∧ kk = keyS c := by
      rw [List.getElem?_map] at hk
      obtain ⟨c, hc, e⟩ := Option.map_eq_some_iff.1 hk
      exact ⟨c, hc, e.symm⟩
    have hjl := lt_of_getElem? hc
    obtain ⟨hq1, hq3⟩ := hH.ne hit
    have hit1 : (H.set q (.iter (.v (cntsV l)) (l.map keyS).length (seen ++ [j]) (l.map keyS).length))[q]? = some (.iter (.v (cntsV l)) (l.map keyS).length (seen ++ [j]) (l.map keyS).length) := List.getElem?_set_self (lt_of_getElem? hit)
    have hH1 := hH.set hq1 hq3 (.iter (.v (cntsV l)) (l.map keyS).length (seen ++ [j]) (l.map keyS).length)
    refine seqH.n ?_
    refine Ht.seq (by kernel_rfl) ?_
    refine Ht.cond true (by kernel_rfl) (by kernel_rfl) (fun _ => ?_) (fun h => nomatch h)
    refine Ht.skip (by kernel_rfl) ?_
    refine seqH.n ?_
    refine Ht.forget kI (Ht.st (σ' := SmI ls (.ptr [.map ks vs, cntsV l]) lvl q (H.set q (.iter (.v (cntsV l)) (l.map keyS).length (seen ++ [j]) (l.map keyS).length))) (by kernel_rfl) ?_)
    generalize H.set q (.iter (.v (cntsV l)) (l.map keyS).length (seen ++ [j]) (l.map keyS).length) = H1 at hit1 hH1
    refine Ht.block 3 (by kernel_rfl) ?_
    refine Ht.seq (by kernel_rfl) ?_
    refine Ht.region (hxR n) (by kernel_rfl) ?_
    refine Ops.one' 1 (fun h0 e0 => enD (h := h0) (q := q) (l := l) (hq_of (g := H1) (e0.trans (by kernel_rfl)) hit1) hc) (by kernel_rfl) (by kernel_rfl) ?_
    refine Ops.seg' 4 5 (by kernel_rfl) ?_
    refine Ops.done (by kernel_rfl) ?_
    refine seqH.n ?_
    refine Ht.region (hxR n) (by kernel_rfl) ?_
    refine Ops.seg' 6 6 (by kernel_rfl) ?_
    refine Ops.one' 7 (fun h0 e0 => muG (h := h0) (b := 3) (l := best) (hq_of (g := H1) (e0.trans (by kernel_rfl)) hH1.c3) ⟨c.1, lvl, c.2⟩) (by kernel_rfl) (by kernel_rfl) ?_
    refine Ops.done (by kernel_rfl) ?_
    refine blkH.n ?_
    have hn2 := nodup_snoc hnd hj
    have hl2 : ∀ i ∈ seen ++ [j], i < l.length := fun i hi => by
      rcases List.mem_append.1 hi with h | h
      · exact hlt i h
      · simp at h; subst h; exact hjl
    have hlen := len_seen hn2 hl2
    rw [List.length_append, List.length_singleton] at hlen
    refine ⟨l.length - (seen ++ [j]).length, by rw [List.length_append, List.length_singleton]; omega, seen ++ [j], H1.set 3 (.map ((putG ⟨c.1, lvl, c.2⟩ best).map keyT) ((putG ⟨c.1, lvl, c.2⟩ best).map valT)), putG ⟨c.1, lvl, c.2⟩ best, rfl, hn2, hl2, by kernel_rfl, ?_, hH1.upd, ?_⟩
    · rw [List.getElem?_set_ne (Ne.symm hq3)]; exact hit1
    · rw [fm_snoc hc]
      exact (hb.put ⟨c.1, lvl, c.2⟩).congr (onC_snoc (fm_ne htn hc hj))
end Go.Abs
end
section
namespace Go.Abs
open Go.Sort Go.Proofs
set_option linter.unusedVariables false
set_option maxRecDepth 100000

theorem walkV_inv {d : Nat} {node : V} {rest : List Int} {lvl : Int} {best lf : List S44} (h : walkV d node rest lvl best = some lf) : (node = .nilptr ∧ best = lf) ∨ ∃ ks vs l, node = .ptr [.map ks vs, cntsV l] ∧ tagsOk l = true ∧
    (((d = 0 ∨ rest = []) ∧ addC lvl best l = lf) ∨ ∃ d' x r nd, d = d' + 1 ∧ rest = x :: r ∧ nextV ks vs x = some nd ∧ walkV d' nd r (lvl + 1) (addC lvl best l) = some lf) := by
  have key : ∀ ks vs ts cs, node = .ptr [.map ks vs, .map ts cs] → walkV d node rest lvl best = bnd (cntsOf ts cs) fun l => match d, rest with
    | 0, _ => some (addC lvl best l)
    | _ + 1, [] => some (addC lvl best l)
    | d + 1, x :: r => bnd (nextV ks vs x) fun n => walkV d n r (lvl + 1) (addC lvl best l) := by
    rintro ks vs ts cs rfl
    cases d <;> cases rest <;> rfl
  by_cases hp : ∃ ks vs ts cs, node = .ptr [.map ks vs, .map ts cs]
  · obtain ⟨ks, vs, ts, cs, e⟩ := hp
    rw [key ks vs ts cs e] at h
    obtain ⟨l, hl, h2⟩ := bnd_some h
    clear h
    unfold cntsOf at hl
    obtain ⟨l', hl', hl2⟩ := bnd_some hl
    clear hl
    rcases cnd_some hl2 with ⟨ht, e'⟩ | ⟨_, e'⟩
    case inr => cases e'
    cases e'
    obtain ⟨e1, e2⟩ := cntsRaw_spec hl'
    subst e1 e2
    refine .inr ⟨ks, vs, l, e, ht, ?_⟩
    cases d with
    | zero => cases h2; exact .inl ⟨.inl rfl, rfl⟩
    | succ d => cases rest with
      | nil => cases h2; exact .inl ⟨.inr rfl, rfl⟩
      | cons x r =>
        obtain ⟨nd, hn, h3⟩ := bnd_some h2
        exact .inr ⟨_, _, _, nd, rfl, rfl, hn, h3⟩
  · unfold walkV at h
    split at h
    · cases h; exact .inl ⟨rfl, rfl⟩
    · exact absurd ⟨_, _, _, _, rfl⟩ hp
    · cases h
theorem lkV {h : List AObj} {ks vs : List V} {x : Int} {nd : V} (hn : nextV ks vs x = some nd) : (lookupD T h 52 (.v (.map ks vs)) (.v (.int .i64 x)) false).map (·, h) = some (.v nd, h) := by
  have e : lookupD T h 52 (.v (.map ks vs)) (.v (.int .i64 x)) false = (match keyFind T 3 (.int .i64 x) ks 0 with
      | none => none
      | some (some j) => ((vs.map D.v)[j]?).map fun d => d
      | some none => some (.v .nilptr)) := rfl
  unfold nextV at hn
  rw [e]
  split at hn
  · rename_i j hj
    simp only [hj, List.getElem?_map, hn, Option.map_some]
  · rename_i hj
    cases hn
    simp only [hj, Option.map_some]
  · cases hn

abbrev kE : List Nat := [4, 5, 8]
def SmE (H : List AObj) : St := Sm 80 [(4, .v (.sl .nil [])), (5, .ptr 1 0), (8, .map 3)] H

theorem step14 (n : Nat) (l : List Int) (ks vs : List V) (cs : List (ByteArray × Int)) (j : Nat) (x : Int) (nd : V) (hix : idx l (w64 (w64 ((l.length : Int) - 1) - (j : Int))) = some x) (hnd : nextV ks vs x = some nd) (H : List AObj) {Q : Post}
    (hq : ∀ σ, Abs.forget kL σ = SmL (eL eI l) nd j H → Q .normal σ) : Ht False Proofs.Tryd.prog (cR (cR B1)) (SmL (eL eI l) (.ptr [.map ks vs, cntsV cs]) j H) Q := by
  refine Ht.region (hxR n) (by kernel_rfl) ?_
  refine Ops.seg' 6 6 (by kernel_rfl) ?_
  refine Ops.one' 7 (fun h0 e0 => (len_r (T := T) h0 41 3 .plain eI l (by kernel_rfl))) (by kernel_rfl) (by kernel_rfl) ?_
  refine Ops.seg' 3 10 (by kernel_rfl) ?_
  refine Ops.one' 11 (fun h0 e0 => (ix_r (T := T) h0 41 3 1 .plain eI l (w64 (w64 ((l.length : Int) - 1) - (j : Int))) x hix (by kernel_rfl) (by kernel_rfl) (fun _ => rfl))) (by kernel_rfl) (by kernel_rfl) ?_
  refine Ops.seg' 1 12 (by kernel_rfl) ?_
  refine Ops.one' 13 (fun h0 e0 => lkV (h := h0) hnd) (by kernel_rfl) (by kernel_rfl) ?_
  refine Ops.seg' 1 14 (by kernel_rfl) ?_
  refine Ops.done (by kernel_rfl) ?_
  exact hq _ (by kernel_rfl)

theorem down12 (n : Nat) (l : List Int) (hl : l.length ≤ 9223372036854775807) (lf : List S44) (t : V) {Q : Post}
    (hq : ∀ H best, HR H best → best.Perm lf → ∀ σ, Abs.forget kE σ = SmE H → Q (.exit 0) σ) (H : List AObj) (hH : HR H []) (hw : walkV 5 t l.reverse 0 [] = some lf) : Ht False Proofs.Tryd.prog L0 (SmL (eL eI l) t 0 H) Q := by
  refine Ht.loop (fun k σ => ∃ (j : Nat) (node : V) (H : List AObj) (best bestC : List S44) (p : S44 → Prop), k = 6 - j ∧ j ≤ 5 ∧ j ≤ l.length ∧ Abs.forget kL σ = SmL (eL eI l) node j H ∧ HR H best ∧ BInv best p ∧ BInv bestC p ∧ walkV (5 - j) node (l.reverse.drop j) j bestC = some lf)
    6 (by kernel_rfl) ⟨0, t, H, [], [], fun _ => False, rfl, by omega, by omega, by kernel_rfl, hH, ⟨List.nodup_nil, fun x => by simp⟩, ⟨List.nodup_nil, fun x => by simp⟩, hw⟩ ?_
  clear hw hH H t
  rintro k σ ⟨j, node, H, best, bestC, p, rfl, hj5, hjl, hσ, hH, hb, hbC, hw⟩
  refine Ht.forget kL (Ht.st hσ ?_)
  clear hσ
  refine Ht.seq (by kernel_rfl) ?_
  refine Ht.seq (by kernel_rfl) ?_
  rcases walkV_inv hw with ⟨rfl, rfl⟩ | ⟨ks, vs, cs, rfl, ht, hcase⟩
  · refine Ht.region (hxR n) (by kernel_rfl) ?_
    refine Ops.seg' 2 2 (by kernel_rfl) ?_
    refine Ops.done (by kernel_rfl) ?_
    refine seqH.n ?_
    refine Ht.cond false (by kernel_rfl) (by kernel_rfl) (fun h => nomatch h) (fun _ => ?_)
    refine Ht.exit (id := 0) (by kernel_rfl) ?_
    show Q (.exit 0) _
    exact hq H best hH (hb.perm hbC) _ (by kernel_rfl)
  refine Ht.region (hxR n) (by kernel_rfl) ?_
  refine Ops.seg' 2 2 (by kernel_rfl) ?_
  refine Ops.done (by kernel_rfl) ?_
  refine seqH.n ?_
  refine Ht.cond true (by kernel_rfl) (by kernel_rfl) (fun _ => ?_) (fun h => nomatch h)
  refine Ht.skip (by kernel_rfl) ?_
  refine seqH.n ?_
  refine Ht.seq (by kernel_rfl) ?_
  refine Ht.block 1 (by kernel_rfl) ?_
  refine Ht.seq (by kernel_rfl) ?_
  refine Ht.forget kL (Ht.st (σ' := SmL (eL eI l) (.ptr [.map ks vs, cntsV cs]) j H) (by kernel_rfl) ?_)
  refine entries12 n (eL eI l) ks vs cs ht j p H best hH hb fun H' best' hH' hb' σ hσ => ?_
  have hbC' := addC_inv (lvl := (j : Int)) cs [] (by simpa using tags_nodup ht) (hbC.congr fun x => onC_nil x)
  rw [List.nil_append] at hbC'
  refine seqH.n ?_
  refine Ht.forget kL (Ht.st hσ ?_)
  clear hσ σ
  refine Ht.seq (by kernel_rfl) ?_
  refine Ht.seq (by kernel_rfl) ?_
  refine Ht.region (hxR n) (by kernel_rfl) ?_
  refine Ops.seg' 2 2 (by kernel_rfl) ?_
  refine Ops.one' 3 (fun h0 e0 => (len_r (T := T) h0 41 3 .plain eI l (by kernel_rfl))) (by kernel_rfl) (by kernel_rfl) ?_
  refine Ops.seg' 2 5 (by kernel_rfl) ?_
  refine Ops.done (by kernel_rfl) ?_
  refine seqH.n ?_
  refine Ht.cond ((j : Int) == (if (l.length : Int) < 5 then (l.length : Int) else 5)) (by kernel_rfl) (by kernel_rfl) (fun hc => ?_) (fun hc => ?_)
  · have hc : (j : Int) = (if (l.length : Int) < 5 then (l.length : Int) else 5) := by simpa using hc
    refine Ht.exit (id := 0) (by kernel_rfl) ?_
    show Q (.exit 0) _
    rcases hcase with ⟨_, e⟩ | ⟨d', x, r, nd, e1, e2, _, _⟩
    · rw [e] at hbC'
      exact hq H' best' hH' (hb'.perm hbC') _ (by kernel_rfl)
    · exfalso
      have : j < l.length := by
        rcases Nat.lt_or_ge j l.length with h | h
        · exact h
        · rw [List.drop_eq_nil_of_le (by simpa using h)] at e2; cases e2
      split at hc <;> omega
  have hc : ¬ (j : Int) = (if (l.length : Int) < 5 then (l.length : Int) else 5) := by simpa using hc
  have hj5' : j < 5 := by split at hc <;> omega
  have hjl' : j < l.length := by split at hc <;> omega
  rcases hcase with ⟨h0 | h0, _⟩ | ⟨d', x, r, nd, e1, e2, hnd, hw'⟩
  · omega
  · have := congrArg List.length h0; simp at this; omega
  have hx : l.reverse[j]? = some x := by
    have := congrArg (·[0]?) e2
    simpa [List.getElem?_drop] using this
  have hr : r = l.reverse.drop (j + 1) := by
    have := congrArg List.tail e2
    simpa [List.tail_drop] using this.symm
  have hix : idx l (w64 (w64 ((l.length : Int) - 1) - (j : Int))) = some x := by
    rw [w64_id (n := (l.length : Int) - 1) (by omega), w64_id (by omega)]
    unfold idx
    rw [if_pos (by omega)]
    rw [List.getElem?_reverse hjl'] at hx
    have : ((l.length : Int) - 1 - (j : Int)).toNat = l.length - 1 - j := by omega
    rw [this]; exact hx
  refine Ht.skip (by kernel_rfl) ?_
  refine seqH.n ?_
  refine Ht.forget kL (Ht.st (σ' := SmL (eL eI l) (.ptr [.map ks vs, cntsV cs]) j H') (by kernel_rfl) ?_)
  refine step14 n l ks vs cs j x nd hix hnd H' fun σ hσ => ?_
  refine blkH.n ?_
  refine seqH.n ?_
  refine Ht.forget kL (Ht.st hσ ?_)
  refine Ht.region (hxR n) (by kernel_rfl) ?_
  refine Ops.seg' 3 3 (by kernel_rfl) ?_
  refine Ops.done (by kernel_rfl) ?_
  have hwj : w64 ((j : Int) + 1) = ((j + 1 : Nat) : Int) := by rw [w64_id (by omega)]; omega
  refine ⟨6 - (j + 1), by omega, j + 1, nd, H', best', addC j bestC cs, onC j cs p, rfl, by omega, by omega, ?_, hH', hb', hbC', ?_⟩
  · have e : ∀ y : Int, y = ((j + 1 : Nat) : Int) → SmL (eL eI l) nd y H' = SmL (eL eI l) nd ((j + 1 : Nat) : Int) H' := fun y hy => by rw [hy]
    refine Eq.trans ?_ (e (w64 ((j : Int) + 1)) hwj)
    kernel_rfl
  · have h5 : 5 - (j + 1) = d' := by omega
    rw [h5, ← hr]
    exact hw'
end Go.Abs
end
section
namespace Go.Abs
open Go.Sort Go.Proofs
set_option linter.unusedVariables false
set_option maxRecDepth 100000

noncomputable def K0 : Code := (cR (cR (cR (cR (cR (cR C12))))))
noncomputable def K1 : Code := cR K0
noncomputable def M4 : Code := (cL (cR (cL K1)))
abbrev kO : List Nat := [5, 13, 67]
abbrev kP : List Nat := [5, 13, 15, 67]
def SmO (q : Nat) (d : D) (H : List AObj) : St := Sm 80 [(5, .ptr 1 0), (13, d), (67, .ptr q 0)] H
def SmP (q a : Nat) (d : D) (H : List AObj) : St := Sm 80 [(5, .ptr 1 0), (13, d), (15, .ptr a 0), (67, .ptr q 0)] H
theorem rgO {h : List AObj} {best : List S44} (h3 : h[3]? = some (.map (best.map keyT) (best.map valT))) : rangeD T h 56 (.map 3) = some (.ptr h.length 0, h ++ [.iter (.map 3) (best.map keyT).length [] (best.map keyT).length]) := by
  have hk : mapKV h (.map 3) = some (best.map keyT, best.map valT) := by simp only [mapKV, h3]
  unfold rangeD
  rw [hk]
  rfl
theorem enO {h : List AObj} {q since j : Nat} {seen : List Nat} {best : List S44} {c : S44} (hq : h[q]? = some (.iter (.map 3) since (seen ++ [j]) (best.map keyT).length)) (h3 : h[3]? = some (.map (best.map keyT) (best.map valT))) (hc : best[j]? = some c) : (entryD h (.ptr q 0)).map (·, h) = some (.v (.tuple [.str c.fTag, e44 c]), h) := by
  have hk : mapKV h (.map 3) = some (best.map keyT, best.map valT) := by simp only [mapKV, h3]
  have hn : isNilM (.map 3) = some false := rfl
  simp only [entryD, hq, List.getLast?_append, List.getLast?_singleton, Option.some_or, hk, hn, if_true, List.getElem?_map, hc, Option.map_some]
  rfl

theorem app12 (n q a qo : Nat) (c : S44) (out : List S44) (H : List AObj) (ha : H[a]? = some (.cells (valT c).cells)) (hlen : out.length < 1000000) (ho : out = [] ∨ H[qo]? = some (rowO 3 (out.map e44))) {Q : Post}
    (hq : ∀ H', ((out = [] ∧ H' = H ++ [rowO 3 ((out ++ [c]).map e44)]) ∨ (H[qo]? = some (rowO 3 (out.map e44)) ∧ H' = H.set qo .dead ++ [rowO 3 ((out ++ [c]).map e44)])) → ∀ σ, Abs.forget kO σ = SmO q (rowD H.length ((out ++ [c]).map e44)) H' → Q .normal σ) :
    Ht False Proofs.Tryd.prog (cR (cL (cR (cR (cL M4))))) (SmP q a (rowD qo (out.map e44)) H) Q := by
  have happ : app ti45.bytes out [c] = some (out ++ [c]) := by
    unfold app
    rw [if_pos]
    have hb : ti45.bytes ≤ 1000 := by decide
    have hm : 1000000 ≤ maxLen := by decide
    constructor
    · have : (out.length + [c].length) * ti45.bytes ≤ 1000000 * 1000 := Nat.mul_le_mul (by simp; omega) hb
      omega
    · simp; omega
  rcases ho with rfl | ho
  · refine Ht.region (hxR n) (by kernel_rfl) ?_
    refine Ops.seg' 1 1 (by kernel_rfl) ?_
    refine Ops.one' 2 (fun h0 e0 => ldc (i := ti45) (h := h0) (r := a) (off := 0) (cs := (valT c).cells) (d := valT c) (hq_of (g := H) (e0.trans (by kernel_rfl)) ha) (by rfl)) (by kernel_rfl) (by kernel_rfl) ?_
    refine Ops.seg' 1 3 (by kernel_rfl) ?_
    refine Ops.one' 4 (fun h0 e0 => row_n (T := T) h0 32 45 ti45 .nonfull e44 [c] ([] ++ [c]) happ (by kernel_rfl) (by kernel_rfl) (by kernel_rfl) (by kernel_rfl) (fun _ => rfl)) (by kernel_rfl) (by kernel_rfl) ?_
    refine Ops.seg' 1 5 (by kernel_rfl) ?_
    refine Ops.done (by kernel_rfl) ?_
    exact hq _ (.inl ⟨rfl, rfl⟩) _ (by kernel_rfl)
  · refine Ht.region (hxR n) (by kernel_rfl) ?_
    refine Ops.seg' 1 1 (by kernel_rfl) ?_
    refine Ops.one' 2 (fun h0 e0 => ldc (i := ti45) (h := h0) (r := a) (off := 0) (cs := (valT c).cells) (d := valT c) (hq_of (g := H) (e0.trans (by kernel_rfl)) ha) (by rfl)) (by kernel_rfl) (by kernel_rfl) ?_
    refine Ops.seg' 1 3 (by kernel_rfl) ?_
    refine Ops.one' 4 (fun h0 e0 => row_app (T := T) h0 32 45 qo ti45 .nonfull e44 out [c] (out ++ [c]) happ (by kernel_rfl) (by kernel_rfl) (by kernel_rfl) (by kernel_rfl) (fun _ => rfl) (hq_of (g := H) (e0.trans (by kernel_rfl)) ho)) (by kernel_rfl) (by kernel_rfl) ?_
    refine Ops.seg' 1 5 (by kernel_rfl) ?_
    refine Ops.done (by kernel_rfl) ?_
    exact hq _ (.inr ⟨ho, rfl⟩) _ (by kernel_rfl)

theorem rowO_ne {k : Nat} {xs : List V} : (∀ cs, rowO k xs ≠ .cells cs) ∧ (∀ ks vs, rowO k xs ≠ .map ks vs) ∧ (∀ m s seen t, rowO k xs ≠ .iter m s seen t) := by
  cases xs <;> exact ⟨(fun _ h => by cases h), (fun _ _ h => by cases h), (fun _ _ _ _ h => by cases h)⟩

theorem out12 (n : Nat) (best : List S44) (hlen : best.length ≤ 1000000) (H : List AObj) (hH : HR H best) {Q : Post}
    (hq : ∀ (q qo : Nat) (out : List S44) (H' : List AObj), HR H' best → out.Perm best → (out = [] ∨ H'[qo]? = some (rowO 3 (out.map e44))) → ∀ σ, Abs.forget kO σ = SmO q (rowD qo (out.map e44)) H' → Q .normal σ) :
    Ht False Proofs.Tryd.prog (cL K1) (Sm 80 [(5, .ptr 1 0), (8, .map 3), (13, .v (.sl .nil []))] H) Q := by
  refine Ht.seq (by kernel_rfl) ?_
  refine Ht.region (hxR n) (by kernel_rfl) ?_
  refine Ops.seg' 1 1 (by kernel_rfl) ?_
  refine Ops.one' 2 (fun h0 e0 => rgO (h := h0) (best := best) (hq_of (g := H) (e0.trans (by kernel_rfl)) hH.c3)) (by kernel_rfl) (by kernel_rfl) ?_
  refine Ops.done (by kernel_rfl) ?_
  refine seqH.n ?_
  refine Ht.block 4 (by kernel_rfl) ?_
  refine Ht.forget kO (Ht.st (σ' := SmO H.length (rowD 0 (([] : List S44).map e44)) (H ++ [.iter (.map 3) (best.map keyT).length [] (best.map keyT).length])) (by kernel_rfl) ?_)
  generalize hqq : H.length = q
  have hit0 : (H ++ [AObj.iter (.map 3) (best.map keyT).length [] (best.map keyT).length])[q]? = some (.iter (.map 3) (best.map keyT).length [] (best.map keyT).length) := by
    subst hqq; simp
  have hH0 := hH.app [AObj.iter (.map 3) (best.map keyT).length [] (best.map keyT).length]
  generalize H ++ [AObj.iter (.map 3) (best.map keyT).length [] (best.map keyT).length] = H1 at hit0 hH0
  refine Ht.loop (fun k σ => ∃ (seen : List Nat) (H : List AObj) (qo : Nat), k = best.length - seen.length ∧ seen.Nodup ∧ (∀ j ∈ seen, j < best.length) ∧ Abs.forget kO σ = SmO q (rowD qo ((seen.filterMap (best[·]?)).map e44)) H ∧ H[q]? = some (.iter (.map 3) (best.map keyT).length seen (best.map keyT).length) ∧ HR H best ∧ (seen.filterMap (best[·]?) = [] ∨ H[qo]? = some (rowO 3 ((seen.filterMap (best[·]?)).map e44))) ∧ (seen.filterMap (best[·]?)).length = seen.length)
    best.length (by kernel_rfl) ⟨[], H1, 0, rfl, List.nodup_nil, (fun j hj => by cases hj), by kernel_rfl, hit0, hH0, .inl rfl, rfl⟩ ?_
  clear hit0 hH0 hqq hH H1 H
  rintro k σ ⟨seen, H, qo, rfl, hnd, hlt, hσ, hit, hH, ho, hol⟩
  refine Ht.forget kO (Ht.st hσ ?_)
  clear hσ
  refine Ht.seq (by kernel_rfl) ?_
  refine Ht.next (hxR n) (it := 67) (t := 68) (u := 69) (r := q) (since := (best.map keyT).length) (last := (best.map keyT).length) (seen := seen) (m := .map 3) (ks := best.map keyT) (vs := best.map valT) (by kernel_rfl) (by kernel_rfl) hit (by simp only [SmO, Sm, mapKV, hH.c3]) (Nat.le_refl _) (Nat.le_refl _) (by simp [SmO, Sm]) (fun hall => ?_) (fun j kk d hj hk hd => ?_)
  · refine seqH.n ?_
    refine Ht.seq (by kernel_rfl) ?_
    refine Ht.cond false (by kernel_rfl) (by kernel_rfl) (fun h => nomatch h) (fun _ => ?_)
    refine Ht.exit (id := 4) (by kernel_rfl) ?_
    show blkH 4 Q (.exit 4) _
    have hp := fm_all best hnd hlt fun j hj => hall j (by simpa using hj)
    exact blkH.x (hq q qo _ H hH hp ho _ (by kernel_rfl))
  · obtain ⟨c, hc⟩ : ∃ c, best[j]? = some c := by
      rw [List.getElem?_map] at hk
      obtain ⟨c, hc, e⟩ := Option.map_eq_some_iff.1 hk
      exact ⟨c, hc⟩
    have hjl := lt_of_getElem? hc
    obtain ⟨hq1, hq3⟩ := hH.ne hit
    have hql := lt_of_getElem? hit
    have hit1 : (H.set q (.iter (.map 3) (best.map keyT).length (seen ++ [j]) (best.map keyT).length))[q]? = some (.iter (.map 3) (best.map keyT).length (seen ++ [j]) (best.map keyT).length) := List.getElem?_set_self hql
    have hH1 := hH.set hq1 hq3 (.iter (.map 3) (best.map keyT).length (seen ++ [j]) (best.map keyT).length)
    have ho1 : seen.filterMap (best[·]?) = [] ∨ (H.set q (.iter (.map 3) (best.map keyT).length (seen ++ [j]) (best.map keyT).length))[qo]? = some (rowO 3 ((seen.filterMap (best[·]?)).map e44)) := by
      rcases ho with ho | ho
      · exact .inl ho
      · refine .inr ?_
        have : q ≠ qo := fun e => by subst e; rw [ho] at hit; exact rowO_ne.2.2 _ _ _ _ (Option.some.inj hit)
        rw [List.getElem?_set_ne this]; exact ho
    refine seqH.n ?_
    refine Ht.seq (by kernel_rfl) ?_
    refine Ht.cond true (by kernel_rfl) (by kernel_rfl) (fun _ => ?_) (fun h => nomatch h)
    refine Ht.skip (by kernel_rfl) ?_
    refine seqH.n ?_
    refine Ht.forget kO (Ht.st (σ' := SmO q (rowD qo ((seen.filterMap (best[·]?)).map e44)) (H.set q (.iter (.map 3) (best.map keyT).length (seen ++ [j]) (best.map keyT).length))) (by kernel_rfl) ?_)
    generalize H.set q (.iter (.map 3) (best.map keyT).length (seen ++ [j]) (best.map keyT).length) = H1 at hit1 hH1 ho1
    refine Ht.block 5 (by kernel_rfl) ?_
    refine Ht.seq (by kernel_rfl) ?_
    have hz : (H1 ++ [AObj.cells (ti45.zero.cells.map .v)])[H1.length]? = some (.cells (ti45.zero.cells.map .v)) := by simp
    refine Ht.region (hxR n) (by kernel_rfl) ?_
    refine Ops.one' 1 (fun h0 e0 => enO (h := h0) (q := q) (best := best) (hq_of (g := H1) (e0.trans (by kernel_rfl)) hit1) (hq_of (g := H1) (e0.trans (by kernel_rfl)) hH1.c3) hc) (by kernel_rfl) (by kernel_rfl) ?_
    refine Ops.seg' 2 3 (by kernel_rfl) ?_
    refine Ops.one' 4 (fun h0 e0 => stc (i := ti45) (h := h0) (r := H1.length) (off := 0) (cs := ti45.zero.cells.map .v) (cs' := (valT c).cells) (x := valT c) (hq_of (g := H1 ++ [AObj.cells (ti45.zero.cells.map .v)]) (e0.trans (by kernel_rfl)) hz) (by rfl) (by rfl)) (by kernel_rfl) (by kernel_rfl) ?_
    refine Ops.done (by kernel_rfl) ?_
    refine seqH.n ?_
    refine Ht.forget kP (Ht.st (σ' := SmP q H1.length (rowD qo ((seen.filterMap (best[·]?)).map e44)) ((H1 ++ [AObj.cells (ti45.zero.cells.map .v)]).set H1.length (.cells (valT c).cells))) (by kernel_rfl) ?_)
    have hl1 := lt_of_getElem? hit1
    have hl3 := lt_of_getElem? hH1.c3
    have hl0 := lt_of_getElem? hH1.c1
    have hH2 := (hH1.app [AObj.cells (ti45.zero.cells.map .v)]).set (q := H1.length) (by omega) (by omega) (.cells (valT c).cells)
    have hit2 : ((H1 ++ [AObj.cells (ti45.zero.cells.map .v)]).set H1.length (.cells (valT c).cells))[q]? = some (.iter (.map 3) (best.map keyT).length (seen ++ [j]) (best.map keyT).length) := by
      rw [List.getElem?_set_ne (by omega)]; exact app_get hit1
    have ha2 : ((H1 ++ [AObj.cells (ti45.zero.cells.map .v)]).set H1.length (.cells (valT c).cells))[H1.length]? = some (.cells (valT c).cells) := List.getElem?_set_self (by simp)
    have ho2 : seen.filterMap (best[·]?) = [] ∨ ((H1 ++ [AObj.cells (ti45.zero.cells.map .v)]).set H1.length (.cells (valT c).cells))[qo]? = some (rowO 3 ((seen.filterMap (best[·]?)).map e44)) := by
      rcases ho1 with ho | ho
      · exact .inl ho
      · have := lt_of_getElem? ho
        exact .inr (by rw [List.getElem?_set_ne (by omega)]; exact app_get ho)
    generalize (H1 ++ [AObj.cells (ti45.zero.cells.map .v)]).set H1.length (.cells (valT c).cells) = H2 at hH2 hit2 ha2 ho2
    have hn2 := nodup_snoc hnd hj
    have hl2 : ∀ i ∈ seen ++ [j], i < best.length := fun i hi => by
      rcases List.mem_append.1 hi with h | h
      · exact hlt i h
      · simp at h; subst h; exact hjl
    have hlen2 := len_seen hn2 hl2
    rw [List.length_append, List.length_singleton] at hlen2
    refine app12 n q H1.length qo c _ H2 ha2 (by omega) ho2 fun H3 hH3 σ hσ => ?_
    refine blkH.n ?_
    have hcell := hH2.c1
    have hmap := hH2.c3
    refine ⟨best.length - (seen ++ [j]).length, by rw [List.length_append, List.length_singleton]; omega, seen ++ [j], H3, H2.length, rfl, hn2, hl2, by rw [fm_snoc hc]; exact hσ, ?_, ?_, ?_, by rw [fm_snoc hc]; simp [hol]⟩
    · rcases hH3 with ⟨_, rfl⟩ | ⟨hqo, rfl⟩
      · exact app_get hit2
      · refine app_get ?_
        have : qo ≠ q := fun e => by subst e; rw [hqo] at hit2; exact rowO_ne.2.2 _ _ _ _ (Option.some.inj hit2)
        rw [List.getElem?_set_ne this]; exact hit2
    · rcases hH3 with ⟨_, rfl⟩ | ⟨hqo, rfl⟩
      · exact hH2.app _
      · refine (hH2.set ?_ ?_ _).app _
        · exact fun e => by subst e; rw [hqo] at hcell; exact rowO_ne.1 _ (Option.some.inj hcell)
        · exact fun e => by subst e; rw [hqo] at hmap; exact rowO_ne.2.1 _ _ (Option.some.inj hmap)
    · refine .inr ?_
      rw [fm_snoc hc]
      rcases hH3 with ⟨_, rfl⟩ | ⟨hqo, rfl⟩
      · simp
      · simp
end Go.Abs
end
section
namespace Go.Abs
open Go.Sort Go.Proofs
set_option linter.unusedVariables false
set_option maxRecDepth 100000

theorem callR {n f : Nat} {h : List AObj} {ds xs : List D} {r : V} (hne : f ≠ 23) (hp : (XR n).E.pureF f = true) (ha : Args h ds xs) (hF : Fn Proofs.Tryd.prog E n f xs r) : callD (XR n).E (GR n) f ds h = some (.v r, h) := by
  obtain ⟨d, h', h1, h2⟩ := hF
  obtain ⟨a1, a2⟩ := ha.spec
  have hg : GR n f xs [] = some (d, h') := by unfold GR; rw [if_neg hne]; exact h1
  simp only [callD, hp, if_true, a1, hg, h2, a2, Bool.true_or]
theorem allM_decG (l : List S44) : allM decG (l.map e44) = some l := by
  have := allM_map (f := decG) (k := e44) (r := fun s => s) l fun s _ => decG_e s
  rw [List.map_id'] at this
  exact this
theorem sort_row {n : Nat} {h : List AObj} {qo : Nat} {x : S44} {r : List S44} (hl : (x :: r).length ≤ 1000000) (ho : h[qo]? = some (rowO 3 ((x :: r).map e44))) :
    callD (XR n).E (GR n) 23 [rowD qo ((x :: r).map e44), .v (.fn 24)] h = some (U, h.set qo (.row 3 ((srtG (x :: r)).map e44))) := by
  have hp : (XR n).E.pureF 23 = false := by kernel_rfl
  have hd : rowD qo ((x :: r).map e44) = .osl qo 0 ((x :: r).map e44).length false := rfl
  have ho' : h[qo]? = some (.row 3 ((x :: r).map e44)) := ho
  simp only [callD, hp, Bool.false_eq_true, if_false, GR, if_true]
  rw [hd]
  simp only [sortFnF, ho']
  rw [if_pos ⟨trivial, trivial, trivial, by simp, by rw [List.length_map]; omega⟩, allM_decG]
  rfl
theorem sort_nil {n : Nat} {h : List AObj} : callD (XR n).E (GR n) 23 [.v (.sl .nil []), .v (.fn 24)] h = some (U, h) := by
  have hp : (XR n).E.pureF 23 = false := by kernel_rfl
  simp only [callD, hp, Bool.false_eq_true, if_false, GR, if_true, sortFnF]

/-- how Rank ends -/
def RQ (o : List S44 × S27) : Post := fun e σ => (e = .normal ∨ e = .ret) ∧ ∃ d, resultsD T σ (resOf Proofs.Tryd.prog 12) = some d ∧ frz σ.heap 15 d = some (.tuple [eL e44 o.1, e27 o.2])

theorem end12 (n q qo : Nat) (out best : List S44) (hlen : best.length ≤ 1000000) (H : List AObj) (hH : HR H best) (hp : out.Perm best) (ho : out = [] ∨ H[qo]? = some (rowO 3 (out.map e44))) :
    Ht False Proofs.Tryd.prog (cR K1) (SmO q (rowD qo (out.map e44)) H) (RQ (srtG best, ⟨0, 0⟩)) := by
  have hr : resOf Proofs.Tryd.prog 12 = [.tmp 4, .cell 5 28] := by kernel_rfl
  have hs : srtG out = srtG best := srtG_congr hp
  have hol : out.length ≤ 1000000 := by rw [hp.length_eq]; exact hlen
  cases out with
  | nil =>
    refine Ht.seq (by kernel_rfl) ?_
    refine Ht.region (hxR n) (by kernel_rfl) ?_
    refine Ops.seg' 1 1 (by kernel_rfl) ?_
    refine Ops.one' 2 (fun h0 e0 => sort_nil (n := n) (h := h0)) (by kernel_rfl) (by kernel_rfl) ?_
    refine Ops.done (by kernel_rfl) ?_
    refine seqH.n ?_
    refine Ht.seq (by kernel_rfl) ?_
    refine Ht.region (hxR n) (by kernel_rfl) ?_
    refine Ops.seg' 3 3 (by kernel_rfl) ?_
    refine Ops.one' 4 (fun h0 e0 => (stc (i := ti28) (h := h0) (r := 1) (off := 0) (cs := [dI 0, dI 0]) (cs' := [dI 0, dI 0]) (x := .v (.agg [vI 0, vI 0])) (hq_of (g := H) (e0.trans (by kernel_rfl)) hH.c1) (by rfl) (by rfl))) (by kernel_rfl) (by kernel_rfl) ?_
    refine Ops.done (by kernel_rfl) ?_
    refine seqH.n ?_
    refine Ht.ret (by kernel_rfl) ?_
    refine ⟨.inr rfl, ?_⟩
    have fin : ∀ σ : St, σ.tmps.getD 4 .undef = .v (.sl .nil []) → σ.tmps.getD 5 .undef = .ptr 1 0 → σ.heap = H.set 1 (.cells [dI 0, dI 0]) → ∃ d, resultsD T σ (resOf Proofs.Tryd.prog 12) = some d ∧ frz σ.heap 15 d = some (.tuple [eL e44 (srtG best), e27 ⟨0, 0⟩]) := by
      intro σ g4 g5 gh
      have k1 : (H.set 1 (.cells [dI 0, dI 0]))[1]? = some (.cells [dI 0, dI 0]) := List.getElem?_set_self (lt_of_getElem? hH.c1)
      refine ⟨.v (.tuple [.sl .nil [], .agg [vI 0, vI 0]]), ?_, ?_⟩
      · rw [hr]
        simp only [resultsD, allM, resultD, T, g4, g5, gh, loadD, k1]
        rfl
      · have e0 : srtG [] = [] := by simp [srtG]
        rw [← hs, e0]; rfl
    exact fin _ (by kernel_rfl) (by kernel_rfl) (by kernel_rfl)
  | cons x r =>
    have ho : H[qo]? = some (rowO 3 ((x :: r).map e44)) := by
      rcases ho with ho | ho
      · cases ho
      · exact ho
    have hne : qo ≠ 1 := fun e => by subst e; rw [hH.c1] at ho; exact rowO_ne.1 _ (Option.some.inj ho).symm
    have k0 : (H.set qo (.row 3 ((srtG (x :: r)).map e44)))[1]? = some (.cells [dI 0, dI 0]) := by rw [List.getElem?_set_ne hne]; exact hH.c1
    refine Ht.seq (by kernel_rfl) ?_
    refine Ht.region (hxR n) (by kernel_rfl) ?_
    refine Ops.seg' 1 1 (by kernel_rfl) ?_
    refine Ops.one' 2 (fun h0 e0 => sort_row (n := n) (h := h0) hol (hq_of (g := H) (e0.trans (by kernel_rfl)) ho)) (by kernel_rfl) (by kernel_rfl) ?_
    refine Ops.done (by kernel_rfl) ?_
    refine seqH.n ?_
    refine Ht.seq (by kernel_rfl) ?_
    refine Ht.region (hxR n) (by kernel_rfl) ?_
    refine Ops.seg' 3 3 (by kernel_rfl) ?_
    refine Ops.one' 4 (fun h0 e0 => (stc (i := ti28) (h := h0) (r := 1) (off := 0) (cs := [dI 0, dI 0]) (cs' := [dI 0, dI 0]) (x := .v (.agg [vI 0, vI 0])) (hq_of (g := H.set qo (.row 3 ((srtG (x :: r)).map e44))) (e0.trans (by kernel_rfl)) k0) (by rfl) (by rfl))) (by kernel_rfl) (by kernel_rfl) ?_
    refine Ops.done (by kernel_rfl) ?_
    refine seqH.n ?_
    refine Ht.ret (by kernel_rfl) ?_
    refine ⟨.inr rfl, ?_⟩
    have fin : ∀ σ : St, σ.tmps.getD 4 .undef = rowD qo ((x :: r).map e44) → σ.tmps.getD 5 .undef = .ptr 1 0 → σ.heap = (H.set qo (.row 3 ((srtG (x :: r)).map e44))).set 1 (.cells [dI 0, dI 0]) → ∃ d, resultsD T σ (resOf Proofs.Tryd.prog 12) = some d ∧ frz σ.heap 15 d = some (.tuple [eL e44 (srtG best), e27 ⟨0, 0⟩]) := by
      intro σ g4 g5 gh
      have k1 : ((H.set qo (.row 3 ((srtG (x :: r)).map e44))).set 1 (.cells [dI 0, dI 0]))[1]? = some (.cells [dI 0, dI 0]) := List.getElem?_set_self (lt_of_getElem? k0)
      have hsl : (srtG (x :: r)).length = r.length + 1 := (srtG_perm (x :: r)).length_eq
      have hrow : ((H.set qo (.row 3 ((srtG (x :: r)).map e44))).set 1 (.cells [dI 0, dI 0]))[qo]? = some (rowO 3 ((srtG (x :: r)).map e44)) := by
        rw [List.getElem?_set_ne (Ne.symm hne), List.getElem?_set_self (lt_of_getElem? ho)]
        cases hc : srtG (x :: r) with
        | nil => rw [hc] at hsl; cases hsl
        | cons y s => rfl
      have hrd : rowD qo ((x :: r).map e44) = rowD qo ((srtG (x :: r)).map e44) := by
        cases hc : srtG (x :: r) with
        | nil => rw [hc] at hsl; cases hsl
        | cons y s =>
          rw [hc] at hsl
          have : r.length = s.length := by simpa using hsl.symm
          simp [rowD, this]
      refine ⟨.tuple [rowD qo ((x :: r).map e44), .v (.agg [vI 0, vI 0])], ?_, ?_⟩
      · rw [hr]
        simp only [resultsD, allM, resultD, T, g4, g5, gh, loadD, k1]
        rfl
      · rw [gh]
        show ((allM (frz _ 14) [rowD qo ((x :: r).map e44), .v (.agg [vI 0, vI 0])]).map V.tuple) = _
        have e1 := row_frz _ 13 qo 3 _ hrow
        rw [← hrd] at e1
        have e2 : frz ((H.set qo (.row 3 ((srtG (x :: r)).map e44))).set 1 (.cells [dI 0, dI 0])) 14 (.v (.agg [vI 0, vI 0])) = some (.agg [vI 0, vI 0]) := rfl
        simp only [allM, e1, e2, Option.map_some]
        rw [← hs]; rfl
    exact fin _ (by kernel_rfl) (by kernel_rfl) (by kernel_rfl)

theorem tail12 (n : Nat) (best : List S44) (hlen : best.length ≤ 1000000) (H : List AObj) (hH : HR H best) {lf : List S44} (hp : best.Perm lf) :
    Ht False Proofs.Tryd.prog K0 (SmE H) (RQ (srtG lf, ⟨0, 0⟩)) := by
  refine Ht.seq (by kernel_rfl) ?_
  refine Ht.region (hxR n) (by kernel_rfl) ?_
  refine Ops.seg' 1 1 (by kernel_rfl) ?_
  refine Ops.done (by kernel_rfl) ?_
  refine seqH.n ?_
  refine Ht.seq (by kernel_rfl) ?_
  refine Ht.forget [5, 8, 13] (Ht.st (σ' := Sm 80 [(5, .ptr 1 0), (8, .map 3), (13, .v (.sl .nil []))] H) (by kernel_rfl) ?_)
  refine out12 n best hlen H hH fun q qo out H' hH' hp' ho σ hσ => ?_
  refine seqH.n ?_
  refine Ht.forget kO (Ht.st hσ ?_)
  rw [← srtG_congr hp]
  exact end12 n q qo out best hlen H' hH' hp' ho

abbrev A12 (t : V) (w : ByteArray) : List (Nat × D) := [(0, .v (.agg [t])), (1, .v (.str w)), (2, .ptr 0 0), (4, .v (.sl .nil [])), (5, .ptr 1 0)]
theorem start12 (n : Nat) (hn : MM + 30 ≤ n) (t : V) (ht : t = .nilptr ∨ ∃ cs, t = .ptr cs) (w : ByteArray) (o : List S44 × S27) (h : rankV t w = some o) :
    Ht False Proofs.Tryd.prog (cR C12) (Sm 80 (A12 t w) [.cells [.v t], .cells [dI 0, dI 0]]) (RQ o) := by
  unfold rankV at h
  obtain ⟨ok, hok, h⟩ := bnd_some h
  refine Ht.seq (by kernel_rfl) ?_
  refine Ht.seq (by kernel_rfl) ?_
  refine Ht.region (hxR n) (by kernel_rfl) ?_
  refine Ops.seg' 1 1 (by kernel_rfl) ?_
  refine Ops.one' 2 (fun h0 e0 => callR (n := n) (h := h0) (f := 18) (by decide) (by kernel_rfl) (Args.v (.str w) (eS w) (by kernel_rfl) Args.nil) (ok18 MM w ok hok n (by omega))) (by kernel_rfl) (by kernel_rfl) ?_
  refine Ops.seg' 1 3 (by kernel_rfl) ?_
  refine Ops.done (by kernel_rfl) ?_
  refine seqH.n ?_
  refine Ht.cond (!ok) (by kernel_rfl) (by kernel_rfl) (fun hc => ?_) (fun hc => ?_)
  · rw [hc] at h
    cases (cnd_t h)
    refine Ht.seq (by kernel_rfl) ?_
    refine Ht.region (hxR n) (by kernel_rfl) ?_
    refine Ops.one' 1 (fun h0 e0 => callR (n := n) (h := h0) (f := 17) (by decide) (by kernel_rfl) (Args.v (vI 5) (eI 5) (by kernel_rfl) (Args.v (vI (-1)) (eI (-1)) (by kernel_rfl) Args.nil)) (ok17 MM 5 (-1) ⟨5, -1⟩ rfl n (by omega))) (by kernel_rfl) (by kernel_rfl) ?_
    refine Ops.seg' 2 3 (by kernel_rfl) ?_
    refine Ops.done (by kernel_rfl) ?_
    refine seqH.n ?_
    refine Ht.ret (by kernel_rfl) ?_
    refine ⟨.inr rfl, ?_⟩
    have hr : resOf Proofs.Tryd.prog 12 = [.tmp 4, .cell 5 28] := by kernel_rfl
    have fin : ∀ σ : St, σ.tmps.getD 4 .undef = .v (.sl .nil []) → σ.tmps.getD 5 .undef = .ptr 1 0 → σ.heap = [.cells [.v t], .cells [dI 5, dI (-1)]] → ∃ d, resultsD T σ (resOf Proofs.Tryd.prog 12) = some d ∧ frz σ.heap 15 d = some (.tuple [eL e44 [], e27 ⟨5, -1⟩]) := by
      intro σ g4 g5 gh
      refine ⟨.v (.tuple [.sl .nil [], .agg [vI 5, vI (-1)]]), ?_, rfl⟩
      rw [hr]
      simp only [resultsD, allM, resultD, T, g4, g5, gh, loadD]
      rfl
    exact fin _ (by kernel_rfl) (by kernel_rfl) (by kernel_rfl)
  rw [hc] at h
  have h := cnd_f h
  obtain ⟨v, hv, h2⟩ := bnd_some h
  rcases cnd_some h2 with ⟨hbig, h3⟩ | ⟨_, h3⟩
  case inr => cases h3
  obtain ⟨lf, hlf, h4⟩ := bnd_some h3
  rcases cnd_some h4 with ⟨hlen, h5⟩ | ⟨_, h5⟩
  case inr => cases h5
  cases h5
  have hbig : v.1.length ≤ 9223372036854775807 := by simpa [big62] using of_decide_eq_true hbig
  have hlen : lf.length ≤ 1000000 := of_decide_eq_true hlen
  refine Ht.skip (by kernel_rfl) ?_
  refine seqH.n ?_
  refine Ht.seq (by kernel_rfl) ?_
  refine Ht.region (hxR n) (by kernel_rfl) ?_
  refine Ops.seg' 1 1 (by kernel_rfl) ?_
  refine Ops.one' 2 (fun h0 e0 => callR (n := n) (h := h0) (f := 21) (by decide) (by kernel_rfl) (Args.v (.str w) (eS w) (by kernel_rfl) Args.nil) (ok21 MM w v hv n (by omega))) (by kernel_rfl) (by kernel_rfl) ?_
  refine Ops.seg' 6 8 (by kernel_rfl) ?_
  refine Ops.done (by kernel_rfl) ?_
  refine seqH.n ?_
  refine Ht.forget [2, 4, 5, 6] (Ht.st (σ' := Sm 80 [(2, .ptr 0 0), (4, .v (.sl .nil [])), (5, .ptr 1 0), (6, .v (eL eI v.1))] [.cells [.v t], .cells [dI 0, dI 0], .cells [dI v.2.fCode, dI v.2.fIndex]]) (by kernel_rfl) ?_)
  refine Ht.seq (by kernel_rfl) ?_
  refine Ht.region (hxR n) (by kernel_rfl) ?_
  refine Ops.seg' 2 2 (by kernel_rfl) ?_
  refine Ops.done (by kernel_rfl) ?_
  refine seqH.n ?_
  refine Ht.seq (by kernel_rfl) ?_
  refine Ht.region (hxR n) (by kernel_rfl) ?_
  refine Ops.seg' 1 1 (by kernel_rfl) ?_
  refine Ops.one' 2 (fun h0 e0 => (ldc (i := ti24) (h := h0) (r := 0) (off := 0) (cs := [.v t]) (d := .v t) (hq_of (g := [.cells [.v t], .cells [dI 0, dI 0], .cells [dI v.2.fCode, dI v.2.fIndex], AObj.map [] []]) (e0.trans (by kernel_rfl)) rfl) (by rcases ht with rfl | ⟨cs, rfl⟩ <;> rfl))) (by kernel_rfl) (by kernel_rfl) ?_
  refine Ops.seg' 1 3 (by kernel_rfl) ?_
  refine Ops.done (by kernel_rfl) ?_
  refine seqH.n ?_
  refine Ht.seq (by kernel_rfl) ?_
  refine Ht.seq (by kernel_rfl) ?_
  refine Ht.region (hxR n) (by kernel_rfl) ?_
  refine Ops.seg' 1 1 (by kernel_rfl) ?_
  refine Ops.done (by kernel_rfl) ?_
  refine seqH.n ?_
  refine Ht.block 0 (by kernel_rfl) ?_
  refine Ht.forget kL (Ht.st (σ' := SmL (eL eI v.1) t 0 [.cells [.v t], .cells [dI 0, dI 0], .cells [dI v.2.fCode, dI v.2.fIndex], AObj.map [] []]) (by kernel_rfl) ?_)
  refine down12 n v.1 hbig lf t (fun H best hH hp σ hσ => ?_) _ ⟨rfl, rfl⟩ hlf
  refine blkH.x ?_
  refine seqH.n ?_
  refine Ht.forget kE (Ht.st hσ ?_)
  exact tail12 n best (by rw [hp.length_eq]; exact hlen) H hH hp

theorem rank12 (n : Nat) (hn : MM + 30 ≤ n) (t : V) (ht : t = .nilptr ∨ ∃ cs, t = .ptr cs) (w : ByteArray) (o : List S44 × S27) (h : rankV t w = some o) :
    Ht False Proofs.Tryd.prog C12 (startOf Proofs.Tryd.prog 12 [.v (.agg [t]), .v (.str w)]) (RQ o) := by
  have hs := start12 n hn t ht w o h
  rcases ht with rfl | ⟨cs, rfl⟩
  · refine Ht.seq (by kernel_rfl) ?_
    refine Ht.region (hxR n) (by kernel_rfl) ?_
    refine Ops.seg' 3 3 (by kernel_rfl) ?_
    refine Ops.done (by kernel_rfl) ?_
    refine seqH.n ?_
    exact Ht.forget [0, 1, 2, 4, 5] (Ht.st (by kernel_rfl) hs)
  · refine Ht.seq (by kernel_rfl) ?_
    refine Ht.region (hxR n) (by kernel_rfl) ?_
    refine Ops.seg' 3 3 (by kernel_rfl) ?_
    refine Ops.done (by kernel_rfl) ?_
    refine seqH.n ?_
    exact Ht.forget [0, 1, 2, 4, 5] (Ht.st (by kernel_rfl) hs)

def isPtr : V → Bool
  | .nilptr | .ptr _ => true
  | _ => false
def F12 : List V → Option V
  | [.agg [t], .str w] => cnd (isPtr t) ((rankV t w).map fun o => .tuple [eL e44 o.1, e27 o.2]) none
  | _ => none
theorem is12 : Is Proofs.Tryd.prog 12 := ⟨Proofs.Tryd.f12, Proofs.Tryd.func12, by kernel_rfl, by kernel_rfl⟩
theorem ora12 : OraOk False Proofs.Tryd.prog 12 F12 := by
  refine ⟨is12, fun vs r hF S w us hrel hs hg => ?_⟩
  unfold F12 at hF
  split at hF
  case h_2 => cases hF
  rename_i t wd
  rcases cnd_some hF with ⟨hp, hF2⟩ | ⟨_, hF2⟩
  case inr => cases hF2
  obtain ⟨o, ho, rfl⟩ := Option.map_eq_some_iff.1 hF2
  have ht : t = .nilptr ∨ ∃ cs, t = .ptr cs := by
    unfold isPtr at hp
    split at hp
    · exact .inl rfl
    · exact .inr ⟨_, rfl⟩
    · cases hp
  exact calls_of_ht (c := C12) (T := T) (N := 15) (r := .tuple [eL e44 o.1, e27 o.2]) Proofs.Tryd.func12 (by kernel_rfl) T_ok (rank12 (MM + 30) (Nat.le_refl _) t ht wd o ho) hrel hs hg
end Go.Abs
end
section
namespace Go.Abs
set_option linter.unusedVariables false
set_option maxRecDepth 100000

def oraG (f : Nat) : Option (List V → Option V) := match f with
  | 10 => some F10
  | 12 => some F12
  | f => oraT f
def EG : Env := { E with ora := oraG }
theorem oraG_ok : OSound False Proofs.Tryd.prog EG := by
  intro f F h
  have h : oraG f = some F := h
  unfold oraG at h
  split at h
  · cases h; exact ora10
  · cases h; exact ora12
  · exact ora_ok f F h
theorem goodG : Good False Proofs.Tryd.prog EG := ⟨good.mixed, T_ok, names_ok, oraG_ok, (fun f F h => by cases h)⟩
theorem plain_e25 (x : S25) : plainV (.agg [eGz x.fRoot]) = .agg [eGz x.fRoot] := by
  obtain ⟨r⟩ := x
  cases r <;> rfl
theorem solid_e25 (r : Option Gz) : ((D.v (.agg [eGz r])).solid && (D.v (.agg [eGz r])).cells.length == ti26.size) = true := by cases r <;> rfl
/-- the rest, where there is one -/
def irem (x y : Int) : Option Int := if y = 0 then none else some (Int.tmod x y)
theorem rem_ok {h : List AObj} {x y z : Int} (e : irem x y = some z) : (binD T .rem 3 (D.unt (dI x)) (D.unt (dI y))).map (·, h) = some (dI z, h) := by
  unfold irem at e
  split at e
  · cases e
  · rename_i hy
    cases e
    have e : binD T .rem 3 (D.unt (dI x)) (D.unt (dI y)) = (intOp .rem .i64 x y).map .v := rfl
    rw [e]
    simp only [intOp, if_neg hy]
    rfl
def f12 (m : Nat) (a0 : S25) (a1 : ByteArray) : Option (List S44 × S27) := rankV (eGz a0.fRoot) a1
theorem isPtr_e (r : Option Gz) : isPtr (eGz r) = true := by cases r <;> rfl
theorem ok10 (m : Nat) (a0 : List S39) (o : S25 × S27) (h : f10 m a0 = some o) (n : Nat) (hn : m + 1 ≤ n) : Fn Proofs.Tryd.prog EG n 10 [.v ((eL e39) a0)] (.tuple [e25 o.1, e27 o.2]) := by
  obtain ⟨n, rfl⟩ : ∃ q, n = q + 1 := ⟨n - 1, by omega⟩
  refine ora_fn (F := F10) (xs := [eL e39 a0]) (by kernel_rfl) rfl rfl ?_ ?_
  · show (match allM decS (a0.map e39) with
      | some l => (f10 0 l).map fun (o : S25 × S27) => V.tuple [e25 o.1, e27 o.2]
      | none => none) = _
    have h : f10 0 a0 = some o := h
    rw [allM_decS]
    show (f10 0 a0).map (fun (o : S25 × S27) => V.tuple [e25 o.1, e27 o.2]) = _
    rw [h]
    rfl
  · show V.tuple [plainV (e25 o.1), plainV (e27 o.2)] = _
    have e1 : plainV (e25 o.1) = e25 o.1 := plain_e25 o.1
    rw [e1]; rfl
theorem ok12 (m : Nat) (a0 : S25) (a1 : ByteArray) (o : List S44 × S27) (h : f12 m a0 a1 = some o) (n : Nat) (hn : m + 1 ≤ n) : Fn Proofs.Tryd.prog EG n 12 [.v (e25 a0), .v (eS a1)] (.tuple [(eL e44) o.1, e27 o.2]) := by
  obtain ⟨n, rfl⟩ : ∃ q, n = q + 1 := ⟨n - 1, by omega⟩
  refine ora_fn (F := F12) (xs := [e25 a0, eS a1]) (by kernel_rfl) rfl rfl ?_ rfl
  show cnd (isPtr (eGz a0.fRoot)) ((rankV (eGz a0.fRoot) a1).map fun (o : List S44 × S27) => V.tuple [eL e44 o.1, e27 o.2]) none = _
  have h : rankV (eGz a0.fRoot) a1 = some o := h
  rw [isPtr_e, h]
  rfl
end Go.Abs
end
