import Derived.Test.YthiikobbfpfbkaaDoorAbsRw
namespace Go.Abs
set_option linter.unusedVariables false
def pilD (q : Nat) (xs : List V) : D := .osl q 0 xs.length false
theorem sub0_some {α : Type} {l zs : List α} {hi : Int} (h : sub l 0 hi = some zs) : 0 ≤ hi ∧ hi.toNat ≤ l.length ∧ zs = l.take hi.toNat := by
  unfold sub at h
  split at h
  · rename_i hc
    cases h
    refine ⟨hc.2.1, by omega, ?_⟩
    simp
  · cases h
theorem pil_len {α : Type} {T : Nat → Option TI} (h : List AObj) (t e q : Nat) (f : α → V) (xs : List α) (hT : (T t).map (·.kind) = some (.slice e)) : (lenD T t (D.unt (pilD q (xs.map f)))).map (·, h) = some (.v (.int .i64 (xs.length : Int)), h) := by
  obtain ⟨ti, h1, h2⟩ := Option.map_eq_some_iff.1 hT
  simp [pilD, D.unt, lenD, h1, h2]
theorem pil_ix {α : Type} {T : Nat → Option TI} (h : List AObj) (t e k q : Nat) (f : α → V) (xs : List α) (i : Int) (x : α) (hx : idx xs i = some x) (hT : (T t).map (·.kind) = some (.slice e)) (hk : sizeT T e = some k) (hq : h[q]? = some (.row k (xs.map f))) :
    (indexAddrH T h t (D.unt (pilD q (xs.map f))) (.v (.int .i64 i))).map (·, h) = some (.eptr q i.toNat 0, h) := by
  obtain ⟨ti, h1, h2⟩ := Option.map_eq_some_iff.1 hT
  obtain ⟨h0, h3, h4⟩ := idx_some hx
  have hn : natOf (.v (.int .i64 i)) = some i.toNat := by simp [natOf, h0]
  simp only [pilD, D.unt, indexAddrH, h1, h2, hn, List.length_map, if_pos h4, hk, hq, if_true, Option.map_some, Nat.zero_add]
theorem pil_ld {α : Type} {i : TI} (h : List AObj) (k q off : Nat) (f : α → V) (xs : List α) (j : Int) (x : α) (y : V) (hx : idx xs j = some x) (hq : h[q]? = some (.row k (xs.map f))) (hy : (cut (f x).cells off i.size).bind (mkOfV i.kind.isAgg) = some y) :
    (loadD i h (.eptr q j.toNat off)).map (·, h) = some (.v y, h) := by
  obtain ⟨h0, h3, h4⟩ := idx_some hx
  have hg : (xs.map f)[j.toNat]? = some (f x) := by rw [List.getElem?_map, h3]; rfl
  simp only [loadD, hq, hg, hy, Option.map_some]
theorem pil_cut {α : Type} {T : Nat → Option TI} (h : List AObj) (t e k q : Nat) (f : α → V) (xs zs : List α) (hi : Int) (hz : sub xs 0 hi = some zs) (hT : (T t).map (·.kind) = some (.slice e)) (hk : sizeT T e = some k) (hq : h[q]? = some (.row k (xs.map f))) :
    cutRowD T h t (D.unt (pilD q (xs.map f))) none (some (.v (.int .i64 hi))) none = some (pilD q (zs.map f), h.set q (.row k (zs.map f))) := by
  obtain ⟨ti, h1, h2⟩ := Option.map_eq_some_iff.1 hT
  obtain ⟨z1, z2, rfl⟩ := sub0_some hz
  have hn : natOf (.v (.int .i64 hi)) = some hi.toNat := by simp [natOf, z1]
  simp only [pilD, D.unt, cutRowD, h1, h2, hn, hq, List.length_map]
  rw [if_pos ⟨hk, z2⟩]
  simp only [List.length_take, List.map_take, Nat.min_eq_left z2]
theorem pil_app {α : Type} {T : Nat → Option TI} (h : List AObj) (t e q r : Nat) (i : TI) (f : α → V) (xs ys zs : List α) (ha : app i.bytes xs ys = some zs) (hT : (T t).map (·.kind) = some (.slice e)) (hi : T e = some i) (hk : (i.size == 0) = false) (hz : (i.zero.cells.length == i.size) = true)
    (hq : h[q]? = some (.row i.size (xs.map f))) (hr : h[r]? = some (.row i.size (ys.map f))) : appendD T true t h (pilD q (xs.map f)) (pilD r (ys.map f)) = some (pilD h.length (zs.map f), h.set q .dead ++ [.row i.size (zs.map f)]) := by
  unfold app at ha
  split at ha
  · rename_i hb
    cases ha
    obtain ⟨hb, hm⟩ := hb
    obtain ⟨ti, h1, h2⟩ := Option.map_eq_some_iff.1 hT
    have hk' : ¬ (i.size = 0 ∨ i.zero.cells.length ≠ i.size) := by
      rintro (h | h)
      · simp [h] at hk
      · exact h (by simpa using hz)
    have hel : elemsOf i.size h (D.unt (pilD r (ys.map f))) = some (ys.map f) := by
      simp only [pilD, D.unt, elemsOf, hr, List.length_map, Nat.zero_add, Nat.le_refl, and_self, if_true, List.drop_zero]
      rw [List.take_of_length_le (by simp)]
    simp only [appendD, h1, h2, hi, if_neg hk', hel, Bool.true_eq_false, if_false]
    simp only [pilD, hq]
    rw [if_pos ⟨trivial, by simp, by simpa using hb, by simpa using hm⟩]
    simp [List.take_of_length_le]
  · cases ha
theorem pil_new {α : Type} {h : List AObj} {k n : Nat} (f : α → V) (xs : List α) (hn : (xs.map f).length = n) : (some (D.osl h.length 0 n false, h ++ [AObj.row k (xs.map f)]) : Option (D × List AObj)) = some (pilD h.length (xs.map f), h ++ [.row k (xs.map f)]) := by
  subst hn; rfl
end Go.Abs
