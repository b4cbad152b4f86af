import Derived.Test.YtgmbaemdedachaaTR
namespace Go.Abs.Pl
open Go.Sort Go.Proofs Go.Abs.Tc Go.Abs.Te Go.Abs.Tg
set_option linter.unusedVariables false
set_option linter.unusedSimpArgs false
set_option linter.unnecessarySimpa false
def tacc (next : List (List Int)) (fin : List Bool) : List Nat → Int → Bool
 | [], s => decide (0 ≤ s) && (fin[s.toNat]?).getD false
 | k :: w, s => decide (0 ≤ s) && match next[s.toNat]? with
  | none => false
  | some row => match row[k]? with
   | none => false
   | some t => tacc next fin w t
variable {s : Int}
theorem tacc_neg {next : List (List Int)} {fin : List Bool} {w : List Nat} (h : s < 0) : tacc next fin w s = false := by
 cases w <;> simp [tacc, show ¬ 0 ≤ s by omega]
def total (B : List (List Int)) : Nat := (B.map List.length).sum
variable {B : List (List Int)} {j : Nat} {l : List Int}
theorem total_set {l' : List Int} (h : B[j]? = some l) : total (B.set j l') + l.length = total B + l'.length := by
 induction B generalizing j with
 | nil => simp at h
 | cons b B ih =>
  cases j with
  | zero =>
   simp at h
   subst h
   simp [total]
   omega
  | succ j =>
   have := ih (j := j) (by simpa using h)
   simp only [total, List.set_cons_succ, List.map_cons, List.sum_cons] at this ⊢
   omega
theorem total_get (h : B[j]? = some l) : l.length ≤ total B := by
 have := total_set (l' := []) h
 simp at this
 omega
structure BkTo (s : Int) (row : List Int) (B B' : List (List Int)) : Prop where
 len : B'.length = B.length
 tot : total B' ≤ total B + row.length
 mono : ∀ (j : Nat) l, B[j]? = some l → ∃ l', B'[j]? = some l' ∧ ∀ x ∈ l, x ∈ l'
 new : ∀ t ∈ row, 0 ≤ t → ∃ l, B'[t.toNat]? = some l ∧ s ∈ l
 back : ∀ (j : Nat) l', B'[j]? = some l' → ∃ l, B[j]? = some l ∧ ∀ x ∈ l', x ∈ l ∨ x = s
theorem bkAdd_to {s : Int} : ∀ (row : List Int) (B : List (List Int)), (∀ t ∈ row, t < (B.length : Int)) → total B + row.length < 100000000 → ∃ B', bkAdd s row B = some B' ∧ BkTo s row B B'
 | [], B, h1, h2 => ⟨B, rfl, rfl, zL _, fun j l h => ⟨l, h, fun _ h => h⟩, fun t ht => by simp at ht, fun j l h => ⟨l, h, fun _ h => .inl h⟩⟩
 | to :: r, B, h1, h2 => by
  rw [List.length_cons] at h2
  have hto := h1 to (zH ..)
  unfold bkAdd
  by_cases h0 : 0 ≤ to
  ·rw [if_pos h0]
   have hx : B[to.toNat]? = some B[to.toNat] := zA om
   rw [hx]
   generalize B[to.toNat] = l at hx
   have hl := total_get hx
   have hs := total_set (l' := l ++ [s]) hx
   rw [List.length_append, List.length_singleton] at hs
   dsimp only
   rw [if_pos om]
   obtain ⟨B', e, g⟩ := bkAdd_to (s := s) r (B.set to.toNat (l ++ [s])) (fun t ht => by rw [zP]; exact h1 t (zF _ ht)) om
   have hself : (B.set to.toNat (l ++ [s]))[to.toNat]? = some (l ++ [s]) := zQ om
   refine ⟨B', e, by rw [g.len, zP], by have := g.tot; rw [List.length_cons]; omega, fun j x hj => ?_, fun t ht ht0 => ?_, fun j x hj => ?_⟩
   ·by_cases e : to.toNat = j
    ·subst e
     obtain ⟨l', h3, h4⟩ := g.mono _ _ hself
     rw [hx] at hj
     cases hj
     exact ⟨l', h3, fun y hy => h4 y (List.mem_append_left _ hy)⟩
    ·obtain ⟨l', h3, h4⟩ := g.mono j x (by rw [zO e]; exact hj)
     exact ⟨l', h3, h4⟩
   ·rcases List.mem_cons.1 ht with rfl | ht
    ·obtain ⟨l', h3, h4⟩ := g.mono _ _ hself
     exact ⟨l', h3, h4 s (by simp)⟩
    ·exact g.new t ht ht0
   ·obtain ⟨l', h3, h4⟩ := g.back j x hj
    by_cases e : to.toNat = j
    ·subst e
     rw [hself] at h3
     cases h3
     refine ⟨l, hx, fun y hy => ?_⟩
     rcases h4 y hy with h | h
     ·rcases List.mem_append.1 h with h | h
      ·exact .inl h
      ·exact .inr (by simpa using h)
     ·exact .inr h
    ·rw [zO e] at h3
     exact ⟨l', h3, h4⟩
  ·rw [if_neg h0]
   obtain ⟨B', e, g⟩ := bkAdd_to (s := s) r B (fun t ht => h1 t (zF _ ht)) om
   refine ⟨B', e, g.len, by have := g.tot; rw [List.length_cons]; omega, g.mono, fun t ht ht0 => ?_, g.back⟩
   rcases List.mem_cons.1 ht with rfl | ht
   ·exact absurd ht0 h0
   ·exact g.new t ht ht0
structure BaTo (fin : List Bool) (rows : List (List Int)) (s n : Nat) (B : List (List Int)) (T : List Int) (B' : List (List Int)) (T' : List Int) : Prop where
 len : B'.length = B.length
 tot : total B' ≤ total B + n * rows.length
 tl : T'.length ≤ T.length + rows.length
 mono : ∀ (j : Nat) l, B[j]? = some l → ∃ l', B'[j]? = some l' ∧ ∀ x ∈ l, x ∈ l'
 new : ∀ (i : Nat) row, rows[i]? = some row → ∀ t ∈ row, 0 ≤ t → ∃ l, B'[t.toNat]? = some l ∧ (((s + i : Nat) : Int)) ∈ l
 back : ∀ (j : Nat) l', B'[j]? = some l' → ∃ l, B[j]? = some l ∧ ∀ x ∈ l', x ∈ l ∨ (0 ≤ x ∧ x < ((s + rows.length : Nat) : Int))
 tmono : ∀ x ∈ T, x ∈ T'
 tnew : ∀ i, i < rows.length → fin[s + i]? = some true → ((s + i : Nat) : Int) ∈ T'
 tback : ∀ x ∈ T', x ∈ T ∨ (0 ≤ x ∧ x < ((s + rows.length : Nat) : Int))
theorem bkAll_to {fin : List Bool} {n : Nat} : ∀ (rows : List (List Int)) (s : Nat) (B : List (List Int)) (T : List Int), (∀ r ∈ rows, r.length = n ∧ ∀ t ∈ r, t < (B.length : Int)) → s + rows.length ≤ fin.length → total B + n * rows.length < 100000000 → T.length + rows.length < 100000000 →
  ∃ B' T', bkAll fin rows s B T = some (B', T') ∧ BaTo fin rows s n B T B' T'
 | [], s, B, T, h1, h2, h3, h4 => ⟨B, T, rfl, rfl, om, om, fun j l h => ⟨l, h, fun _ h => h⟩, fun i row h => by simp at h, fun j l h => ⟨l, h, fun _ h => .inl h⟩, fun _ h => h, fun i hi => by simp at hi, fun _ h => .inl h⟩
 | row :: rest, s, B, T, h1, h2, h3, h4 => by
  rw [List.length_cons] at h2 h3 h4
  rw [Nat.mul_succ] at h3
  obtain ⟨r1, r2⟩ := h1 row (zH ..)
  obtain ⟨B1, e1, g1⟩ := bkAdd_to (s := (s : Int)) row B r2 om
  have hf : fin[s]? = some fin[s] := zA om
  unfold bkAll
  rw [e1, hf]
  generalize fin[s] = f at hf
  dsimp only
  rw [if_pos om]
  have gt := g1.tot
  have hT : (if f then T ++ [(s : Int)] else T).length ≤ T.length + 1 := by split <;> simp
  obtain ⟨B', T', e, g⟩ := bkAll_to (fin := fin) (n := n) rest (s + 1) B1 (if f then T ++ [(s : Int)] else T) (fun r hr => ⟨(h1 r (zF _ hr)).1, by rw [g1.len]; exact (h1 r (zF _ hr)).2⟩) om om om
  refine ⟨B', T', e, by rw [g.len, g1.len], ?_, ?_, fun j l hj => ?_, fun i r hi t ht ht0 => ?_, fun j l hj => ?_, fun x hx => ?_, fun i hi hfi => ?_, fun x hx => ?_⟩
  ·have := g.tot
   rw [List.length_cons, Nat.mul_succ]; omega
  ·have := g.tl
   rw [List.length_cons]; omega
  ·obtain ⟨l1, a1, a2⟩ := g1.mono j l hj
   obtain ⟨l2, a3, a4⟩ := g.mono j l1 a1
   exact ⟨l2, a3, fun x hx => a4 x (a2 x hx)⟩
  ·cases i with
   | zero =>
    simp at hi
    subst hi
    obtain ⟨l1, a1, a2⟩ := g1.new t ht ht0
    obtain ⟨l2, a3, a4⟩ := g.mono _ l1 a1
    exact ⟨l2, a3, a4 _ a2⟩
   | succ i =>
    have := g.new i r (by simpa using hi) t ht ht0
    rw [show s + (i + 1) = s + 1 + i by omega]
    exact this
  ·obtain ⟨l1, a1, a2⟩ := g.back j l hj
   obtain ⟨l2, a3, a4⟩ := g1.back j l1 a1
   refine ⟨l2, a3, fun x hx => ?_⟩
   rw [List.length_cons]
   rcases a2 x hx with h | h
   ·rcases a4 x h with h | h
    ·exact .inl h
    ·right; omega
   ·right; omega
  ·refine g.tmono x ?_
   split
   ·exact List.mem_append_left _ hx
   ·exact hx
  ·cases i with
   | zero =>
    refine g.tmono _ ?_
    rw [Nat.add_zero, hf] at hfi
    cases hfi
    simp
   | succ i =>
    have := g.tnew i (by simpa using hi) (by rw [show s + 1 + i = s + (i + 1) by omega]; exact hfi)
    rw [show s + (i + 1) = s + 1 + i by omega]
    exact this
  ·rw [List.length_cons]
   rcases g.tback x hx with h | h
   ·split at h
    ·rcases List.mem_append.1 h with h | h
     ·exact .inl h
     ·simp at h
      right; omega
    ·exact .inl h
   ·right; omega
def cost : List (List Int) → List Bool → Nat
 | l :: B, u :: U => (if u then 0 else l.length) + cost B U
 | _, _ => 0
theorem cost_le : ∀ (B : List (List Int)) (U : List Bool), cost B U ≤ total B
 | [], U => by simp [cost]
 | l :: B, [] => by simp [cost]
 | l :: B, u :: U => by
  have := cost_le B U
  simp only [cost, total, List.map_cons, List.sum_cons] at this ⊢
  split <;> omega
theorem cost_set : ∀ {B : List (List Int)} {U : List Bool} {i : Nat} {l : List Int}, B[i]? = some l → U[i]? = some false → cost B (U.set i true) + l.length = cost B U
 | [], U, i, l, h1, h2 => by simp at h1
 | b :: B, [], i, l, h1, h2 => by simp at h2
 | b :: B, u :: U, 0, l, h1, h2 => by
  simp at h1 h2
  subst h1 h2
  simp [cost]
  omega
 | b :: B, u :: U, i + 1, l, h1, h2 => by
  have := cost_set (B := B) (U := U) (i := i) (l := l) (by simpa using h1) (by simpa using h2)
  simp only [List.set_cons_succ, cost]
  omega
theorem getLast_split (h : l.getLast? = some s) : l = l.dropLast ++ [s] := by
 cases l with
 | nil => simp at h
 | cons x r =>
  rw [List.getLast?_eq_some_getLast (by simp)] at h
  rw [← zC h]
  exact (List.dropLast_concat_getLast (by simp)).symm
structure DfTo (B : List (List Int)) (T : List Int) (U U' : List Bool) : Prop where
 len : U'.length = U.length
 mono : ∀ (i : Nat), U[i]? = some true → U'[i]? = some true
 todo : ∀ x ∈ T, U'[x.toNat]? = some true
 close : ∀ (i : Nat) l, B[i]? = some l → U[i]? = some false → U'[i]? = some true → ∀ x ∈ l, U'[x.toNat]? = some true
theorem dfs_to {B : List (List Int)} {N : Nat} (hB : B.length = N) (hl : ∀ l ∈ B, ∀ x ∈ l, 0 ≤ x ∧ x < (N : Int)) (hbt : total B < 50000000) : ∀ (n : Nat) (T : List Int) (U : List Bool), U.length = N → (∀ x ∈ T, 0 ≤ x ∧ x < (N : Int)) → T.length + cost B U < n → T.length + cost B U < 50000000 →
  ∃ U', dfs B n T U = some U' ∧ DfTo B T U U'
 | 0, T, U, h1, h2, h3, h4 => by omega
 | n + 1, T, U, h1, h2, h3, h4 => by
  unfold dfs
  cases hg : T.getLast? with
  | none =>
   have : T = [] := List.getLast?_eq_none_iff.1 hg
   subst this
   exact ⟨U, rfl, rfl, fun _ h => h, fun x hx => by simp at hx, fun i l _ a b => by rw [a] at b; cases b⟩
  | some s =>
   have hT := getLast_split hg
   have hlen : T.length = T.dropLast.length + 1 := by rw [List.length_dropLast]; have := congrArg List.length hT; simp at this; omega
   generalize T.dropLast = D at hT hlen ⊢
   subst hT
   obtain ⟨s0, s1⟩ := h2 s (by simp)
   have hu : U[s.toNat]? = some U[s.toNat] := zA om
   have hux : idx U s = U[s.toNat]? := by unfold idx; rw [if_pos s0]
   have hbx : idx B s = B[s.toNat]? := by unfold idx; rw [if_pos s0]
   dsimp only
   rw [hux, hu, hbx]
   cases huv : U[s.toNat] with
   | true =>
    rw [huv] at hu
    dsimp only
    obtain ⟨U', e, g⟩ := dfs_to hB hl hbt n D U h1 (fun x hx => h2 x (List.mem_append_left _ hx)) om om
    refine ⟨U', e, g.len, g.mono, fun x hx => ?_, g.close⟩
    rcases List.mem_append.1 hx with h | h
    ·exact g.todo x h
    ·simp at h
     subst h
     exact g.mono _ hu
   | false =>
    rw [huv] at hu
    have hb : B[s.toNat]? = some B[s.toNat] := zA om
    have hbm := List.getElem_mem (show s.toNat < B.length by omega)
    rw [hb]
    generalize B[s.toNat] = l at hb hbm
    have hc := cost_set hb hu
    have ht := total_get hb
    dsimp only
    rw [if_pos om]
    have hin : ∀ x ∈ D ++ l, 0 ≤ x ∧ x < (N : Int) := fun x hx => by
     rcases List.mem_append.1 hx with h | h
     ·exact h2 x (List.mem_append_left _ h)
     ·exact hl l hbm x h
    obtain ⟨U', e, g⟩ := dfs_to hB hl hbt n (D ++ l) (U.set s.toNat true) (by rw [zP]; exact h1) hin (by rw [List.length_append]; omega) (by rw [List.length_append]; omega)
    have hself : (U.set s.toNat true)[s.toNat]? = some true := zQ om
    refine ⟨U', e, by rw [g.len, zP], fun i hi => g.mono i ?_, fun x hx => ?_, fun i l' hbi hui hui' => ?_⟩
    ·by_cases e : s.toNat = i
     ·subst e; exact hself
     ·rw [zO e]; exact hi
    ·rcases List.mem_append.1 hx with h | h
     ·exact g.todo x (List.mem_append_left _ h)
     ·simp at h
      subst h
      exact g.mono _ hself
    ·by_cases e : s.toNat = i
     ·subst e
      rw [hb] at hbi
      cases hbi
      exact fun x hx => g.todo x (List.mem_append_right _ hx)
     ·exact g.close i l' hbi (by rw [zO e]; exact hui) hui'
def cutT (U : List Bool) (t : Int) : Int := if 0 ≤ t then (if U[t.toNat]? = some true then t else -1) else t
theorem cutRow_eq {U : List Bool} : ∀ (row : List Int), (∀ t ∈ row, t < (U.length : Int)) → cutRow U row = some (row.map (cutT U))
 | [], h => rfl
 | to :: r, h => by
  have hto := h to (zH ..)
  unfold cutRow
  rw [cutRow_eq r fun t ht => h t (zF _ ht)]
  by_cases h0 : 0 ≤ to
  ·rw [if_pos h0]
   have hx : U[to.toNat]? = some U[to.toNat] := zA om
   have : idx U to = U[to.toNat]? := by unfold idx; rw [if_pos h0]
   rw [this, hx]
   have hc : cutT U to = if U[to.toNat] then to else -1 := by
    unfold cutT
    rw [if_pos h0, hx]
    simp
   rw [List.map_cons, hc]
  ·rw [if_neg h0]
   have hc : cutT U to = to := by unfold cutT; rw [if_neg h0]
   rw [List.map_cons, hc]
   rfl
theorem cutAll_eq {U : List Bool} : ∀ (rows : List (List Int)), (∀ r ∈ rows, ∀ t ∈ r, t < (U.length : Int)) → cutAll U rows = some (rows.map (List.map (cutT U)))
 | [], h => rfl
 | row :: rest, h => by
  unfold cutAll
  rw [cutRow_eq row (h row (zH ..)), cutAll_eq rest fun r hr => h r (zF _ hr)]
  rfl
theorem cut_acc {next : List (List Int)} {fin U : List Bool} (hu : ∀ w s, tacc next fin w s = true → U[s.toNat]? = some true) : ∀ (w : List Nat) (s : Int), tacc (next.map (List.map (cutT U))) fin w s = tacc next fin w s
 | [], s => rfl
 | k :: w, s => by
  unfold tacc
  rw [zG]
  cases next[s.toNat]? with
  | none => rfl
  | some row =>
   simp only [Option.map_some, zG]
   cases row[k]? with
   | none => rfl
   | some t =>
    simp only [Option.map_some]
    have ht : tacc (next.map (List.map (cutT U))) fin w (cutT U t) = tacc next fin w t := by
     unfold cutT
     by_cases h0 : 0 ≤ t
     ·rw [if_pos h0]
      by_cases h1 : U[t.toNat]? = some true
      ·rw [if_pos h1]; exact cut_acc hu w t
      ·rw [if_neg h1]
       rw [tacc_neg om]
       cases h2 : tacc next fin w t with
       | false => rfl
       | true => exact absurd (hu w t h2) h1
     ·rw [if_neg h0]; exact cut_acc hu w t
    rw [ht]
open Go.Sort Go.Proofs Go.Abs.Tc Go.Abs.Te Go.Abs.Tf Go.Abs.Tg
theorem tl_strI (l : List Int) : (strI l).toList = l.map fun n => UInt8.ofNat n.toNat := by rw [Lib.toList_data]; rfl
variable {a b : Int}
theorem u8_inj (ha : 0 ≤ a ∧ a < 256) (hb : 0 ≤ b ∧ b < 256) (h : UInt8.ofNat a.toNat = UInt8.ofNat b.toNat) : a = b := by
 have := congrArg UInt8.toNat h
 rw [UInt8.toNat_ofNat', UInt8.toNat_ofNat', Nat.mod_eq_of_lt om, Nat.mod_eq_of_lt om] at this
 omega
theorem strI_inj : ∀ {l l' : List Int}, (∀ x ∈ l, 0 ≤ x ∧ x < 256) → (∀ x ∈ l', 0 ≤ x ∧ x < 256) → (strI l).toList = (strI l').toList → l = l' := by
 intro l l' h1 h2 h
 rw [tl_strI, tl_strI] at h
 induction l generalizing l' with
 | nil =>
  cases l' with
  | nil => rfl
  | cons y r => simp at h
 | cons x l ih =>
  cases l' with
  | nil => simp at h
  | cons y r =>
   simp only [List.map_cons, List.cons.injEq] at h
   rw [u8_inj (h1 x (zH ..)) (h2 y (zH ..)) h.1, ih (fun z hz => h1 z (zF _ hz)) (fun z hz => h2 z (zF _ hz)) h.2]
theorem w8_eq (x : Int) : w8 x = x % 256 := by
 unfold w8 IntKind.wrap
 rfl
theorem b3_eq (c : Int) : b3 c = [c / 65536 % 256, c / 256 % 256, c % 256] := by
 unfold b3
 rw [w8_eq, w8_eq, w8_eq, Int.fdiv_eq_ediv_of_nonneg _ (by decide), Int.fdiv_eq_ediv_of_nonneg _ (by decide)]
 rfl
theorem b3_byte (c : Int) : ∀ x ∈ b3 c, 0 ≤ x ∧ x < 256 := by
 rw [b3_eq]
 intro x hx
 simp only [List.mem_cons, List.not_mem_nil, or_false] at hx
 rcases hx with rfl | rfl | rfl <;> omega
theorem b3_inj (ha : -1 ≤ a ∧ a < 100000) (hb : -1 ≤ b ∧ b < 100000) (h : b3 a = b3 b) : a = b := by
 rw [b3_eq, b3_eq] at h
 simp only [List.cons.injEq, and_true] at h
 omega
def clsT (cl : List Int) (t : Int) : Int := if 0 ≤ t then (cl[t.toNat]?).getD 0 else -1
def keyR (cl : List Int) (c : Int) (f : Bool) (row : List Int) : List Int := b3 c ++ [if f then 1 else 0] ++ row.flatMap fun t => b3 (clsT cl t)
variable {cl : List Int}
theorem clsOf_eq {t : Int} (h : t < (cl.length : Int)) : clsOf cl t = some (clsT cl t) := by
 unfold clsOf clsT
 split
 ·rename_i h0
  unfold idx
  rw [if_pos h0, zA om]
  rfl
 ·rfl
theorem rowKey_eq {cl : List Int} : ∀ (row acc : List Int), (∀ t ∈ row, t < (cl.length : Int)) → rowKey cl row acc = some (acc ++ row.flatMap fun t => b3 (clsT cl t))
 | [], acc, h => by simp [rowKey]
 | to :: r, acc, h => by
  unfold rowKey
  rw [clsOf_eq (h to (zH ..))]
  dsimp only
  rw [rowKey_eq r _ fun t ht => h t (zF _ ht), List.flatMap_cons, List.append_assoc]
variable {c : Int} {f : Bool} {row : List Int}
theorem keyOfS_eq {s : Nat} (hc : cl[s]? = some c) (h : ∀ t ∈ row, t < (cl.length : Int)) : keyOfS cl s f row = some (strI (keyR cl c f row)) := by
 unfold keyOfS
 rw [hc]
 dsimp only
 rw [rowKey_eq row _ h]
 rfl
theorem keyR_byte (cl : List Int) (c : Int) (f : Bool) (row : List Int) : ∀ x ∈ keyR cl c f row, 0 ≤ x ∧ x < 256 := by
 intro x hx
 unfold keyR at hx
 rcases List.mem_append.1 hx with h | h
 ·rcases List.mem_append.1 h with h | h
  ·exact b3_byte c x h
  ·simp at h
   subst h
   cases f <;> simp
 ·obtain ⟨t, _, h⟩ := List.mem_flatMap.1 h
  exact b3_byte _ x h
theorem rows_inj {cl : List Int} (hc : ∀ t : Int, -1 ≤ clsT cl t ∧ clsT cl t < 100000) : ∀ {a b : List Int}, (a.flatMap fun t => b3 (clsT cl t)) = (b.flatMap fun t => b3 (clsT cl t)) → a.map (clsT cl) = b.map (clsT cl)
 | [], [], _ => rfl
 | [], y :: b, h => by simp [b3] at h
 | x :: a, [], h => by simp [b3] at h
 | x :: a, y :: b, h => by
  rw [List.flatMap_cons, List.flatMap_cons] at h
  obtain ⟨h1, h2⟩ := List.append_inj h (by simp [b3])
  rw [List.map_cons, List.map_cons, b3_inj (hc x) (hc y) h1, rows_inj hc h2]
theorem keyR_inj (hc : ∀ t : Int, -1 ≤ clsT cl t ∧ clsT cl t < 100000) {c' : Int} {f' : Bool} {row' : List Int} (h1 : -1 ≤ c ∧ c < 100000) (h2 : -1 ≤ c' ∧ c' < 100000) (h : keyR cl c f row = keyR cl c' f' row') :
  c = c' ∧ f = f' ∧ row.map (clsT cl) = row'.map (clsT cl) := by
 unfold keyR at h
 obtain ⟨a, b⟩ := List.append_inj h (by simp [b3])
 obtain ⟨a1, a2⟩ := List.append_inj a (by simp [b3])
 refine ⟨b3_inj h1 h2 a1, ?_, rows_inj hc b⟩
 cases f <;> cases f' <;> simp at a2 <;> rfl
theorem kfind_val {s : ByteArray} : ∀ {K : List ByteArray} {i j : Nat}, kfind s K i = some j → ∃ k, K[j - i]? = some k ∧ k.toList = s.toList
 | [], i, j, h => by cases h
 | x :: r, i, j, h => by
  unfold kfind at h
  split at h
  ·rename_i e
   cases h
   exact ⟨x, by simp, (by simpa using e : s.toList = x.toList).symm⟩
  ·obtain ⟨k, h1, h2⟩ := kfind_val h
   have := (kfind_lt h).1
   refine ⟨k, ?_, h2⟩
   rw [show j - i = (j - (i + 1)) + 1 by omega]
   simpa using h1
structure RenTo (key : Nat → List Int) (s n : Nat) (K : List ByteArray) (R : List Int) (K' : List ByteArray) (R' : List Int) : Prop where
 rl : R'.length = R.length
 ext : ∀ (j : Nat) k, K[j]? = some k → K'[j]? = some k
 lo : K.length ≤ K'.length
 hi : K'.length ≤ K.length + n
 val : ∀ i, i < n → ∃ j : Nat, R'[s + i]? = some (j : Int) ∧ ∃ k, K'[j]? = some k ∧ k.toList = (strI (key (s + i))).toList
 old : ∀ i, i < s → R'[i]? = R[i]?
 surj : ∀ j, K.length ≤ j → j < K'.length → ∃ i, i < n ∧ R'[s + i]? = some (j : Int)
theorem ren_to {cl : List Int} {fin : List Bool} {key : Nat → List Int} : ∀ (rows : List (List Int)) (s : Nat) (K : List ByteArray) (R : List Int),
  (∀ (i : Nat) row, rows[i]? = some row → ∃ f, fin[s + i]? = some f ∧ keyOfS cl (s + i) f row = some (strI (key (s + i)))) → s + rows.length ≤ R.length → K.length + rows.length < 100000000 →
  ∃ K' R', ren cl fin rows s K R = some (K', R') ∧ RenTo key s rows.length K R K' R'
 | [], s, K, R, h1, h2, h3 => ⟨K, R, rfl, rfl, fun _ _ h => h, zL _, zL _, fun i hi => absurd hi (Nat.not_lt_zero _), fun _ _ => rfl, fun j a b => by omega⟩
 | row :: rest, s, K, R, h1, h2, h3 => by
  rw [List.length_cons] at h2 h3
  obtain ⟨f, hf, hk⟩ := h1 0 row rfl
  rw [Nat.add_zero] at hf hk
  unfold ren
  rw [hf]
  dsimp only
  rw [hk]
  dsimp only
  rw [if_pos om]
  have hkl := addK_len K (strI (key s))
  obtain ⟨K', R', e, g⟩ := ren_to (key := key) rest (s + 1) (addK K (strI (key s))) (R.set s (numK K (strI (key s)) : Nat)) (fun i r hi => by
   have := h1 (i + 1) r (by simpa using hi)
   rw [show s + 1 + i = s + (i + 1) by omega]
   exact this) (by rw [zP]; omega) om
  have hext : ∀ (j : Nat) k, K[j]? = some k → (addK K (strI (key s)))[j]? = some k := fun j k hj => by
   unfold addK
   split
   ·exact hj
   ·rw [zJ (yE hj)]; exact hj
  have hlo : K.length ≤ (addK K (strI (key s))).length := by
   unfold addK
   split
   ·omega
   ·simp
  have hnum : ∃ k, (addK K (strI (key s)))[numK K (strI (key s))]? = some k ∧ k.toList = (strI (key s)).toList := by
   unfold addK numK
   cases hz : kfind (strI (key s)) K 0 with
   | none => exact ⟨_, by simp, rfl⟩
   | some j => exact kfind_val hz
  have h0 : R'[s]? = some ((numK K (strI (key s)) : Nat) : Int) := by
   rw [g.old s om]
   exact zQ om
  refine ⟨K', R', e, by rw [g.rl, zP], fun j k hj => g.ext j k (hext j k hj), Nat.le_trans hlo g.lo, by have := g.hi; rw [List.length_cons]; omega, fun i hi => ?_, fun i hi => by rw [g.old i om, zO om], fun j hj hj' => ?_⟩
  ·cases i with
   | zero =>
    obtain ⟨k, a1, a2⟩ := hnum
    exact ⟨_, by rw [Nat.add_zero]; exact h0, k, g.ext _ _ a1, by rw [Nat.add_zero]; exact a2⟩
   | succ i =>
    rw [List.length_cons] at hi
    obtain ⟨j, a1, a2⟩ := g.val i om
    rw [show s + (i + 1) = s + 1 + i by omega]
    exact ⟨j, a1, a2⟩
  ·by_cases hj2 : (addK K (strI (key s))).length ≤ j
   ·obtain ⟨i, a1, a2⟩ := g.surj j hj2 hj'
    exact ⟨i + 1, by rw [List.length_cons]; omega, by rw [show s + (i + 1) = s + 1 + i by omega]; exact a2⟩
   ·refine ⟨0, by rw [List.length_cons]; omega, ?_⟩
    rw [Nat.add_zero, h0]
    have : numK K (strI (key s)) = j := by
     unfold addK at hj2
     unfold numK
     cases hz : kfind (strI (key s)) K 0 with
     | none =>
      rw [hz] at hj2
      simp at hj2
      simp; omega
     | some q =>
      rw [hz] at hj2
      dsimp only at hj2
      omega
    rw [this]
theorem sub_len : ∀ (A l : List Nat), A.Nodup → (∀ a ∈ A, a ∈ l) → A.length ≤ l.length
 | [], l, _, _ => Nat.zero_le _
 | a :: A, l, h1, h2 => by
  have ha := h2 a (zH ..)
  obtain ⟨h3, h4⟩ := List.nodup_cons.1 h1
  have := sub_len A (l.erase a) h4 fun x hx => (List.mem_erase_of_ne (fun e : x = a => h3 (e ▸ hx))).2 (h2 x (zF _ hx))
  rw [List.length_erase_of_mem ha] at this
  have := List.length_pos_of_mem ha
  rw [List.length_cons]; omega
variable {n : Nat}
theorem onto_le {m : Nat} (f : Nat → Nat) (h : ∀ c, c < m → ∃ j, j < n ∧ f j = c) : m ≤ n := by
 have := sub_len (List.range m) ((List.range n).map f) List.nodup_range fun c hc => by
  obtain ⟨j, a, b⟩ := h c (List.mem_range.1 hc)
  exact List.mem_map.2 ⟨j, List.mem_range.2 a, b⟩
 simpa using this
theorem onto_inj (f : Nat → Nat) (h : ∀ c, c < n → ∃ j, j < n ∧ f j = c) {i j : Nat} (hi : i < n) (hj : j < n) (e : f i = f j) : i = j := by
 apply Classical.byContradiction
 intro hne
 have := sub_len (List.range n) (((List.range n).filter (· ≠ j)).map f) List.nodup_range fun c hc => by
  obtain ⟨k, a, b⟩ := h c (List.mem_range.1 hc)
  by_cases hk : k = j
  ·subst hk
   exact List.mem_map.2 ⟨i, List.mem_filter.2 ⟨List.mem_range.2 hi, by simpa using hne⟩, by rw [e]; exact b⟩
  ·exact List.mem_map.2 ⟨k, List.mem_filter.2 ⟨List.mem_range.2 a, by simpa using hk⟩, b⟩
 rw [List.length_map, List.length_range] at this
 have h2 : ((List.range n).filter (· ≠ j)).length < (List.range n).length := by
  rw [List.length_filter_lt_length_iff_exists]
  exact ⟨j, List.mem_range.2 hj, by simp⟩
 rw [List.length_range] at h2
 omega
structure ClOk (N : Nat) (cl : List Int) (cnt : Nat) : Prop where
 len : cl.length = N
 val : ∀ s, s < N → ∃ j : Nat, cl[s]? = some (j : Int) ∧ j < 100000
 lt : cnt ≠ 0 → ∀ (s j : Nat), cl[s]? = some (j : Int) → j < cnt
 surj : ∀ c, c < cnt → ∃ s, s < N ∧ cl[s]? = some (c : Int)
structure Stable (N : Nat) (next : List (List Int)) (fin : List Bool) (cls : List Int) : Prop where
 fin : ∀ s t : Nat, s < N → t < N → cls[s]? = cls[t]? → fin[s]? = fin[t]?
 row : ∀ (s t : Nat) rs rt, next[s]? = some rs → next[t]? = some rt → cls[s]? = cls[t]? → rs.map (clsT cls) = rt.map (clsT cls)
variable {N cnt : Nat} {cl : List Int}
theorem clsT_b (h : ClOk N cl cnt) (t : Int) : -1 ≤ clsT cl t ∧ clsT cl t < 100000 := by
 unfold clsT
 split
 ·cases hx : cl[t.toNat]? with
  | none => simp
  | some x =>
   have := yE hx
   rw [h.len] at this
   obtain ⟨j, h1, h2⟩ := h.val _ this
   rw [h1] at hx
   cases hx
   show -1 ≤ (j : Int) ∧ (j : Int) < 100000
   omega
 ·omega
variable {fin : List Bool} {next : List (List Int)}
theorem round (hN : next.length = N) (hN2 : N ≤ 20000) (hf : fin.length = N) (ht : ∀ r ∈ next, ∀ t ∈ r, t < (N : Int)) (hc : ClOk N cl cnt) :
  ∃ K R, ren cl fin next 0 [] (List.replicate next.length 0) = some (K, R) ∧ ClOk N R K.length ∧ K.length ≤ N ∧ (0 < N → 0 < K.length) ∧ cnt ≤ K.length ∧ (K.length = cnt → Stable N next fin R) := by
 let key : Nat → List Int := fun i => keyR cl ((cl[i]?).getD 0) ((fin[i]?).getD false) ((next[i]?).getD [])
 have hk : ∀ (i : Nat) row, next[i]? = some row → ∃ f, fin[0 + i]? = some f ∧ keyOfS cl (0 + i) f row = some (strI (key (0 + i))) := fun i row hi => by
  have h1 := yE hi
  have h2 : fin[i]? = some fin[i] := zA om
  obtain ⟨j, h3, _⟩ := hc.val i om
  rw [Nat.zero_add]
  refine ⟨_, h2, ?_⟩
  rw [keyOfS_eq h3 fun t h => by rw [hc.len]; exact ht row (zE hi) t h]
  show _ = some (strI (keyR cl ((cl[i]?).getD 0) ((fin[i]?).getD false) ((next[i]?).getD [])))
  rw [h3, h2, hi]
  rfl
 obtain ⟨K, R, e, g⟩ := ren_to (key := key) next 0 [] (List.replicate next.length 0) hk (by simp) (by simp; omega)
 have hval : ∀ i, i < N → ∃ j : Nat, R[i]? = some (j : Int) ∧ j < K.length ∧ ∃ k, K[j]? = some k ∧ k.toList = (strI (key i)).toList := fun i hi => by
  obtain ⟨j, a1, k, a2, a3⟩ := g.val i om
  rw [Nat.zero_add] at a1 a3
  exact ⟨j, a1, yE a2, k, a2, a3⟩
 have hKl : K.length ≤ N := by have := g.hi; simp at this; omega
 have hsame : ∀ a b : Nat, a < N → b < N → R[a]? = R[b]? → cl[a]? = cl[b]? ∧ fin[a]? = fin[b]? ∧ ∀ ra rb, next[a]? = some ra → next[b]? = some rb → ra.map (clsT cl) = rb.map (clsT cl) := fun a b ha hb hab => by
  obtain ⟨j, a1, _, k, a2, a3⟩ := hval a ha
  obtain ⟨j', b1, _, k', b2, b3⟩ := hval b hb
  rw [a1, b1] at hab
  have hj : j = j' := by have := zC hab; omega
  subst hj
  rw [a2] at b2
  cases b2
  have hkey : key a = key b := strI_inj (keyR_byte _ _ _ _) (keyR_byte _ _ _ _) (a3.symm.trans b3)
  obtain ⟨x, x1, x2⟩ := hc.val a ha
  obtain ⟨y, y1, y2⟩ := hc.val b hb
  have h2 : fin[a]? = some fin[a] := zA om
  have h3 : fin[b]? = some fin[b] := zA om
  have hkey : keyR cl ((cl[a]?).getD 0) ((fin[a]?).getD false) ((next[a]?).getD []) = keyR cl ((cl[b]?).getD 0) ((fin[b]?).getD false) ((next[b]?).getD []) := hkey
  rw [x1, y1, h2, h3] at hkey
  simp only [Option.getD_some] at hkey
  obtain ⟨c1, c2, c3⟩ := keyR_inj (clsT_b hc) om om hkey
  refine ⟨by rw [x1, y1, c1], by rw [h2, h3, c2], fun ra rb hra hrb => ?_⟩
  rw [hra, hrb] at c3
  exact c3
 -- the old class of a new one
 let f : Nat → Nat := fun j => @dite _ (∃ s, s < N ∧ R[s]? = some (j : Int)) (Classical.propDecidable _) (fun h => ((cl[Classical.choose h]?).getD 0).toNat) (fun _ => 0)
 have hfv : ∀ s j : Nat, s < N → R[s]? = some (j : Int) → ∀ c : Nat, cl[s]? = some (c : Int) → f j = c := fun s j hs hj c hcs => by
  have hex : ∃ s, s < N ∧ R[s]? = some (j : Int) := ⟨s, hs, hj⟩
  have : f j = ((cl[Classical.choose hex]?).getD 0).toNat := dif_pos hex
  rw [this]
  obtain ⟨h1, h2⟩ := Classical.choose_spec hex
  rw [(hsame _ s h1 hs (by rw [h2, hj])).1, hcs]
  rfl
 have honto : ∀ c, c < cnt → ∃ j, j < K.length ∧ f j = c := fun c hcc => by
  obtain ⟨s, h1, h2⟩ := hc.surj c hcc
  obtain ⟨j, a1, a2, _⟩ := hval s h1
  exact ⟨j, a2, hfv s j h1 a1 c h2⟩
 refine ⟨K, R, e, ⟨by rw [g.rl]; simp [hN], fun s hs => ?_, fun _ s j hj => ?_, fun c hcc => ?_⟩, hKl, fun h0 => ?_, onto_le f honto, fun hK => ⟨fun s t hs ht' h => (hsame s t hs ht' h).2.1, fun s t rs rt hs htt h => ?_⟩⟩
 ·obtain ⟨j, a1, a2, _⟩ := hval s hs
  exact ⟨j, a1, om⟩
 ·have hs := yE hj
  rw [g.rl] at hs
  obtain ⟨j', a1, a2, _⟩ := hval s (by simpa [hN] using hs)
  rw [a1] at hj
  have : j' = j := by have := zC hj; omega
  omega
 ·obtain ⟨i, a1, a2⟩ := g.surj c (by simp) hcc
  rw [Nat.zero_add] at a2
  exact ⟨i, om, a2⟩
 ·obtain ⟨j, _, a2, _⟩ := hval 0 h0
  omega
 ·have hsN := yE hs
  have htN := yE htt
  have hmap := (hsame s t om om h).2.2 rs rt hs htt
  have hin : ∀ x y : Int, x < (N : Int) → y < (N : Int) → clsT cl x = clsT cl y → clsT R x = clsT R y := fun x y hx hy hxy => by
   unfold clsT at hxy ⊢
   by_cases h1 : 0 ≤ x <;> by_cases h2 : 0 ≤ y
   ·rw [if_pos h1, if_pos h2] at hxy ⊢
    obtain ⟨cx, x1, _⟩ := hc.val x.toNat om
    obtain ⟨cy, y1, _⟩ := hc.val y.toNat om
    rw [x1, y1] at hxy
    obtain ⟨jx, a1, a2, _⟩ := hval x.toNat om
    obtain ⟨jy, b1, b2, _⟩ := hval y.toNat om
    have hcxy : cx = cy := by simp at hxy; omega
    have := onto_inj f (by rw [hK]; rw [hK] at honto; exact honto) a2 b2 (by rw [hfv _ jx om a1 cx x1, hfv _ jy om b1 cy y1, hcxy])
    rw [a1, b1, this]
   ·rw [if_pos h1, if_neg h2] at hxy
    obtain ⟨cx, x1, _⟩ := hc.val x.toNat om
    rw [x1] at hxy
    simp at hxy <;> omega
   ·rw [if_neg h1, if_pos h2] at hxy
    obtain ⟨cy, y1, _⟩ := hc.val y.toNat om
    rw [y1] at hxy
    simp at hxy <;> omega
   ·rw [if_neg h1, if_neg h2]
  have go : ∀ (a b : List Int), (∀ x ∈ a, x < (N : Int)) → (∀ x ∈ b, x < (N : Int)) → a.map (clsT cl) = b.map (clsT cl) → a.map (clsT R) = b.map (clsT R) := by
   intro a
   induction a with
   | nil =>
    intro b _ _ h
    cases b with
    | nil => rfl
    | cons y b => simp at h
   | cons x a ih =>
    intro b h1 h2 h
    cases b with
    | nil => simp at h
    | cons y b =>
     simp only [List.map_cons, List.cons.injEq] at h ⊢
     exact ⟨hin x y (h1 x (zH ..)) (h2 y (zH ..)) h.1, ih b (fun z hz => h1 z (zF _ hz)) (fun z hz => h2 z (zF _ hz)) h.2⟩
  exact go rs rt (ht rs (zE hs)) (ht rt (zE htt)) hmap
theorem refn_to {N : Nat} {next : List (List Int)} {fin : List Bool} (hN : next.length = N) (hN2 : N ≤ 20000) (hf : fin.length = N) (ht : ∀ r ∈ next, ∀ t ∈ r, t < (N : Int)) : ∀ (m : Nat) (cl : List Int) (cnt : Nat), ClOk N cl cnt → N + 2 ≤ m + cnt → 0 < m →
  ∃ cls c, refn next fin m cl cnt = some (cls, ((c : Nat) : Int)) ∧ ClOk N cls c ∧ Stable N next fin cls ∧ c ≤ N ∧ (0 < N → c ≠ 0)
 | 0, cl, cnt, h1, h2, h3 => by omega
 | m + 1, cl, cnt, h1, h2, h3 => by
  obtain ⟨K, R, e, r1, r2, r3, r4, r5⟩ := round hN hN2 hf ht h1
  unfold refn
  rw [e]
  dsimp only
  by_cases hK : K.length = cnt
  ·rw [if_pos hK]
   exact ⟨R, cnt, rfl, hK ▸ r1, r5 hK, om, fun h => by have := r3 h; omega⟩
  ·rw [if_neg hK]
   exact refn_to hN hN2 hf ht m R K.length r1 om om
theorem f66_to {n : Nat} (hn : n ≤ 300) (hr : ∀ r ∈ next, r.length = n) (hN : next.length = N) (hN2 : N ≤ 20000) (hf : fin.length = N) (ht : ∀ r ∈ next, ∀ t ∈ r, t < (N : Int)) (m : Nat) (hm : 20002 ≤ m) :
  ∃ cls c, f66 m next fin = some (cls, ((c : Nat) : Int)) ∧ ClOk N cls c ∧ Stable N next fin cls ∧ c ≤ N ∧ (0 < N → c ≠ 0) := by
 unfold f66
 rw [if_pos ⟨om, by
  rw [zZ]
  intro r h
  have := hr r h
  simp; omega⟩]
 refine refn_to hN hN2 hf ht m _ 0 ⟨by simp [hN], fun s hs => ⟨0, ?_, om⟩, fun h => absurd rfl h, fun c hc => absurd hc (Nat.not_lt_zero _)⟩ om om
 rw [zU, if_pos om]
 rfl
theorem cls_acc {N : Nat} {next : List (List Int)} {fin : List Bool} {cls : List Int} {cnt : Nat} (hN : next.length = N) (ht : ∀ r ∈ next, ∀ t ∈ r, t < (N : Int)) (hc : ClOk N cls cnt) (hs : Stable N next fin cls) : ∀ (w : List Nat) (s t : Nat), s < N → t < N → cls[s]? = cls[t]? → tacc next fin w (s : Int) = tacc next fin w (t : Int)
 | [], s, t, h1, h2, h => by
  unfold tacc
  rw [zN, zN, hs.fin s t h1 h2 h]
  simp
 | k :: w, s, t, h1, h2, h => by
  have a1 : next[s]? = some next[s] := zA om
  have a2 : next[t]? = some next[t] := zA om
  have hm := hs.row s t _ _ a1 a2 h
  have b1 := ht _ (zE a1)
  have b2 := ht _ (zE a2)
  unfold tacc
  rw [zN, zN, a1, a2]
  generalize next[s] = rs at hm b1
  generalize next[t] = rt at hm b2
  dsimp only
  have hk : (rs[k]?).map (clsT cls) = (rt[k]?).map (clsT cls) := by rw [← zG, ← zG, hm]
  cases hx : rs[k]? with
  | none =>
   rw [hx] at hk
   cases hy : rt[k]? with
   | none => simp
   | some y => rw [hy] at hk; cases hk
  | some x =>
   rw [hx] at hk
   cases hy : rt[k]? with
   | none => rw [hy] at hk; cases hk
   | some y =>
    rw [hy] at hk
    have hk : clsT cls x = clsT cls y := zC hk
    have hx2 := b1 x (zE hx)
    have hy2 := b2 y (zE hy)
    have key : tacc next fin w x = tacc next fin w y := by
     unfold clsT at hk
     by_cases h3 : 0 ≤ x <;> by_cases h4 : 0 ≤ y
     ·rw [if_pos h3, if_pos h4] at hk
      obtain ⟨cx, x1, _⟩ := hc.val x.toNat om
      obtain ⟨cy, y1, _⟩ := hc.val y.toNat om
      have := cls_acc hN ht hc hs w x.toNat y.toNat om om (by rw [x1, y1] at hk ⊢; exact congrArg some hk)
      rw [show ((x.toNat : Nat) : Int) = x by omega, show ((y.toNat : Nat) : Int) = y by omega] at this
      exact this
     ·rw [if_pos h3, if_neg h4] at hk
      obtain ⟨cx, x1, _⟩ := hc.val x.toNat om
      rw [x1] at hk
      simp at hk <;> omega
     ·rw [if_neg h3, if_pos h4] at hk
      obtain ⟨cy, y1, _⟩ := hc.val y.toNat om
      rw [y1] at hk
      simp at hk <;> omega
     ·rw [tacc_neg om, tacc_neg om]
    have e1 : decide (0 ≤ ((s : Nat) : Int)) = true := by simp
    have e2 : decide (0 ≤ ((t : Nat) : Int)) = true := by simp
    rw [e1, e2, Bool.true_and, Bool.true_and]
    exact key
theorem somes_to : ∀ (cls : List Int) (s : Nat) (S : List Int), (∀ x ∈ cls, 0 ≤ x ∧ x < (S.length : Int)) → ∃ S', somes cls s S = some S' ∧ S'.length = S.length ∧
  (∀ c : Nat, (∀ x ∈ cls, x ≠ (c : Int)) → S'[c]? = S[c]?) ∧ ∀ (i c : Nat), cls[i]? = some (c : Int) → ∃ j : Nat, cls[j]? = some (c : Int) ∧ S'[c]? = some ((s + j : Nat) : Int)
 | [], s, S, h => ⟨S, rfl, rfl, fun _ _ => rfl, fun i c h => by simp at h⟩
 | x :: r, s, S, h => by
  obtain ⟨x0, x1⟩ := h x (zH ..)
  unfold somes upd
  rw [if_pos ⟨x0, om⟩]
  dsimp only
  obtain ⟨S', e, h1, h2, h3⟩ := somes_to r (s + 1) (S.set x.toNat (s : Int)) (fun y hy => by rw [zP]; exact h y (zF _ hy))
  refine ⟨S', e, by rw [h1, zP], fun c hc => ?_, fun i c hi => ?_⟩
  ·rw [h2 c fun y hy => hc y (zF _ hy), zO]
   intro e
   have := hc x (zH ..)
   omega
  ·by_cases hex : ∃ j : Nat, r[j]? = some (c : Int)
   ·obtain ⟨j, hj⟩ := hex
    obtain ⟨j', a1, a2⟩ := h3 j c hj
    exact ⟨j' + 1, by simpa using a1, by rw [a2, show s + 1 + j' = s + (j' + 1) by omega]⟩
   ·have hxc : x = (c : Int) := by
     cases i with
     | zero => simpa using hi
     | succ i => exact absurd ⟨i, by simpa using hi⟩ hex
    subst hxc
    refine ⟨0, rfl, ?_⟩
    rw [h2 c fun y hy e => hex (by obtain ⟨j, hj⟩ := List.getElem?_of_mem hy; exact ⟨j, by rw [hj, e]⟩), zN, zQ om]
    rfl
structure Ba (N n cnt : Nat) (rows : List (List Int)) (fin : List Bool) (cls S : List Int) : Prop where
 rl : rows.length = N
 n2 : N ≤ 20000
 fl : fin.length = N
 row : ∀ r ∈ rows, r.length = n
 to : ∀ r ∈ rows, ∀ t ∈ r, t < (N : Int)
 cl : ClOk N cls cnt
 c0 : cnt ≠ 0
 st : Stable N rows fin cls
 so : ∀ (x c : Nat), cls[x]? = some (c : Int) → ∃ y : Nat, S[c]? = some (y : Int) ∧ cls[y]? = some (c : Int)
 sl : S.length = cnt
 n3 : n ≤ 300
structure OutI (cnt : Nat) (O P : List Int) : Prop where
 pl : P.length = cnt
 ov : ∀ (i : Nat) x, O[i]? = some x → ∃ c : Nat, x = (c : Int) ∧ c < cnt
 po : ∀ i c : Nat, O[i]? = some (c : Int) → P[c]? = some (i : Int)
 pn : ∀ (c : Nat) (p : Int), P[c]? = some p → 0 ≤ p → O[p.toNat]? = some (c : Int)
theorem OutI.push {cnt : Nat} {O P : List Int} (h : OutI cnt O P) {c : Nat} {p : Int} (hc : P[c]? = some p) (hp : p < 0) : OutI cnt (O ++ [(c : Int)]) (P.set c (O.length : Int)) := by
 have hlt := yE hc
 have hnot : ∀ i : Nat, O[i]? ≠ some (c : Int) := fun i e => by
  have := h.po i c e
  rw [hc] at this
  have := zC this
  omega
 refine ⟨by rw [zP]; exact h.pl, fun i x hi => ?_, fun i d hi => ?_, fun d q hd hq => ?_⟩
 ·rcases (yF _ _ _ _).1 hi with ⟨g, _⟩ | ⟨_, g⟩
  ·exact h.ov i x g
  ·exact ⟨c, g.symm, by rw [← h.pl]; exact hlt⟩
 ·rcases (yF _ _ _ _).1 hi with ⟨g, _⟩ | ⟨g1, g⟩
  ·have hne : c ≠ d := fun e => hnot i (e ▸ g)
   rw [zO hne]
   exact h.po i d g
  ·have : d = c := by omega
   subst this
   rw [zQ hlt, g1]
 ·by_cases e : c = d
  ·subst e
   rw [zQ hlt] at hd
   cases hd
   rw [zN, zK (zL _), Nat.sub_self]
   rfl
  ·rw [zO e] at hd
   have := h.pn d q hd hq
   rw [zJ (yE this)]
   exact this
structure ArTo (cnt : Nat) (cls : List Int) (i : Nat) (row : List Int) (k : Nat) (O P : List Int) (A : List S52) (O' P' : List Int) (A' : List S52) : Prop where
 inv : OutI cnt O' P'
 ext : ∀ (j : Nat) x, O[j]? = some x → O'[j]? = some x
 old : ∀ a ∈ A, a ∈ A'
 snd : ∀ a ∈ A', a ∈ A ∨ ∃ (k' p c : Nat) (t : Int), row[k']? = some t ∧ 0 ≤ t ∧ cls[t.toNat]? = some (c : Int) ∧ O'[p]? = some (c : Int) ∧ a = ⟨i, p, ((k + k' : Nat) : Int) + 1, ((k + k' : Nat) : Int) + 1, 0⟩
 cmp : ∀ (k' c : Nat) (t : Int), row[k']? = some t → 0 ≤ t → cls[t.toNat]? = some (c : Int) → ∃ p : Nat, O'[p]? = some (c : Int) ∧ (⟨i, p, ((k + k' : Nat) : Int) + 1, ((k + k' : Nat) : Int) + 1, 0⟩ : S52) ∈ A'
 ol : O'.length ≤ O.length + row.length
 al : A'.length ≤ A.length + row.length
theorem arcsF_to {N n cnt : Nat} {rows : List (List Int)} {fin : List Bool} {cls S : List Int} (hB : Ba N n cnt rows fin cls S) {i : Nat} : ∀ (row : List Int) (k : Nat) (O P : List Int) (A : List S52), (∀ t ∈ row, t < (N : Int)) → k + row.length ≤ n → OutI cnt O P →
  O.length + row.length < 100000000 → A.length + row.length < 100000000 → ∃ O' P' A', arcsF cls (numL n) i row k O P A = some (O', P', A') ∧ ArTo cnt cls i row k O P A O' P' A'
 | [], k, O, P, A, h1, h2, h3, h4, h5 => ⟨O, P, A, rfl, h3, fun _ _ h => h, fun _ h => h, fun _ h => .inl h, fun k' c t h => by simp at h, zL _, zL _⟩
 | to :: r, k, O, P, A, h1, h2, h3, h4, h5 => by
  rw [List.length_cons] at h2 h4 h5
  have hto := h1 to (zH ..)
  have hr := fun t ht => h1 t (zF to ht)
  unfold arcsF
  by_cases h0 : to < 0
  ·rw [if_pos h0]
   obtain ⟨O', P', A', e, g⟩ := arcsF_to hB (i := i) r (k + 1) O P A hr om h3 om om
   refine ⟨O', P', A', e, g.inv, g.ext, g.old, fun a ha => ?_, fun k' c t hk ht hc => ?_, by have := g.ol; rw [List.length_cons]; omega, by have := g.al; rw [List.length_cons]; omega⟩
   ·rcases g.snd a ha with h | ⟨k', p, c, t, b1, b2, b3, b4, b5⟩
    ·exact .inl h
    ·exact .inr ⟨k' + 1, p, c, t, by simpa using b1, b2, b3, b4, by rw [b5, show k + 1 + k' = k + (k' + 1) by omega]⟩
   ·cases k' with
    | zero =>
     simp at hk
     omega
    | succ k' =>
     obtain ⟨p, b1, b2⟩ := g.cmp k' c t (by simpa using hk) ht hc
     exact ⟨p, b1, by rw [show k + (k' + 1) = k + 1 + k' by omega]; exact b2⟩
  ·rw [if_neg h0]
   obtain ⟨c, hc, _⟩ := hB.cl.val to.toNat om
   have hcl : idx cls to = some (c : Int) := by unfold idx; rw [if_pos om]; exact hc
   have hcc := hB.cl.lt hB.c0 _ _ hc
   have hpl : c < P.length := by rw [h3.pl]; exact hcc
   have hpx : P[c]? = some P[c] := zA hpl
   rw [hcl]
   dsimp only
   rw [idx_get, hpx, numL_get (show k < n by omega)]
   generalize P[c] = p at hpx
   dsimp only
   rw [if_pos ⟨om, om⟩, zN]
   -- what one arc more does
   have fin : ∀ (O1 P1 : List Int) (q : Nat), OutI cnt O1 P1 → (∀ (j : Nat) x, O[j]? = some x → O1[j]? = some x) → O1[q]? = some (c : Int) → O1.length ≤ O.length + 1 →
     ∃ O' P' A', arcsF cls (numL n) i r (k + 1) O1 P1 (A ++ [⟨i, q, (k : Int) + 1, (k : Int) + 1, 0⟩]) = some (O', P', A') ∧ ArTo cnt cls i (to :: r) k O P A O' P' A' := by
    intro O1 P1 q hI hext hq hl
    obtain ⟨O', P', A', e, g⟩ := arcsF_to hB (i := i) r (k + 1) O1 P1 (A ++ [⟨i, q, (k : Int) + 1, (k : Int) + 1, 0⟩]) hr om hI om (by rw [List.length_append, List.length_singleton]; omega)
    refine ⟨O', P', A', e, g.inv, fun j x hj => g.ext j x (hext j x hj), fun a ha => g.old a (List.mem_append_left _ ha), fun a ha => ?_, fun k' d t hk ht hd => ?_, by have := g.ol; rw [List.length_cons]; omega, by have := g.al; rw [List.length_append, List.length_singleton] at this; rw [List.length_cons]; omega⟩
    ·rcases g.snd a ha with h | ⟨k', p, c, t, b1, b2, b3, b4, b5⟩
     ·rcases List.mem_append.1 h with h | h
      ·exact .inl h
      ·exact .inr ⟨0, q, c, to, rfl, om, hc, g.ext _ _ hq, by simpa using h⟩
     ·exact .inr ⟨k' + 1, p, c, t, by simpa using b1, b2, b3, b4, by rw [b5, show k + 1 + k' = k + (k' + 1) by omega]⟩
    ·cases k' with
     | zero =>
      simp at hk
      subst hk
      rw [hc] at hd
      have : c = d := by have := zC hd; omega
      subst this
      exact ⟨q, g.ext _ _ hq, g.old _ (List.mem_append_right _ (by simp))⟩
     | succ k' =>
      obtain ⟨p, b1, b2⟩ := g.cmp k' d t (by simpa using hk) ht hd
      exact ⟨p, b1, by rw [show k + (k' + 1) = k + 1 + k' by omega]; exact b2⟩
   by_cases hp : p < 0
   ·rw [if_pos hp]
    exact fin _ _ O.length (h3.push hpx hp) (fun j x hj => by rw [zJ (yE hj)]; exact hj) (by rw [zK (zL _), Nat.sub_self]; rfl) (by simp)
   ·rw [if_neg hp]
    have := fin O P p.toNat h3 (fun _ _ h => h) (h3.pn c p hpx om) om
    rw [show ((p.toNat : Nat) : Int) = p by omega] at this
    exact this
def Way (rows : List (List Int)) (cls S O : List Int) (i k d : Nat) : Prop := ∃ (c s : Nat) (row : List Int) (t : Int), O[i]? = some (c : Int) ∧ S[c]? = some (s : Int) ∧ rows[s]? = some row ∧ row[k]? = some t ∧ 0 ≤ t ∧ cls[t.toNat]? = some (d : Int)
def EndAt (fin : List Bool) (S O : List Int) (i : Nat) : Prop := ∃ c s : Nat, O[i]? = some (c : Int) ∧ S[c]? = some (s : Int) ∧ fin[s]? = some true
structure MacI (rows : List (List Int)) (fin : List Bool) (cls S : List Int) (cnt i : Nat) (O P : List Int) (A : List S52) (F : List S54) : Prop where
 inv : OutI cnt O P
 snd : ∀ a ∈ A, ∃ j k p d : Nat, j < i ∧ Way rows cls S O j k d ∧ O[p]? = some (d : Int) ∧ a = ⟨j, p, (k : Int) + 1, (k : Int) + 1, 0⟩
 cmp : ∀ j k d : Nat, j < i → Way rows cls S O j k d → ∃ p : Nat, O[p]? = some (d : Int) ∧ (⟨j, p, (k : Int) + 1, (k : Int) + 1, 0⟩ : S52) ∈ A
 fsnd : ∀ x ∈ F, ∃ j : Nat, j < i ∧ EndAt fin S O j ∧ x = ⟨j, 0⟩
 fcmp : ∀ j : Nat, j < i → EndAt fin S O j → (⟨j, 0⟩ : S54) ∈ F
 fl : F.length ≤ i
theorem outF_to {N n cnt : Nat} {rows : List (List Int)} {fin : List Bool} {cls S : List Int} (hB : Ba N n cnt rows fin cls S) : ∀ (m i : Nat) (O P : List Int) (A : List S52) (F : List S54), MacI rows fin cls S cnt i O P A F → i ≤ O.length → O.length ≤ 400 → A.length ≤ 2000 → 402 ≤ m + i →
  ∃ M f, outF rows fin cls (numL n) S m i O P A F = some (M, f) ∧ (f = ⟨17, -1⟩ ∨ f = ⟨0, 0⟩ ∧ ∃ O' P', M.fSt = (O'.length : Int) ∧ MacI rows fin cls S cnt O'.length O' P' M.fAs M.fFn ∧ O'.length ≤ 400 ∧ M.fAs.length ≤ 2000 ∧ ∀ (j : Nat) x, O[j]? = some x → O'[j]? = some x)
 | 0, i, O, P, A, F, h, h1, h2, h3, h4 => by omega
 | m + 1, i, O, P, A, F, h, h1, h2, h3, h4 => by
  unfold outF
  cases ho : O[i]? with
  | none =>
   have := List.getElem?_eq_none_iff.1 ho
   have e : i = O.length := by omega
   subst e
   exact ⟨_, _, rfl, .inr ⟨rfl, O, P, rfl, h, h2, h3, fun _ _ h => h⟩⟩
  | some o =>
   have hi := yE ho
   obtain ⟨c, rfl, hcc⟩ := h.inv.ov i o ho
   obtain ⟨x, _, hx⟩ := hB.cl.surj c hcc
   obtain ⟨s, hs, hsc⟩ := hB.so x c hx
   have hsN := yE hsc
   rw [hB.cl.len] at hsN
   have hsr : s < rows.length := by rw [hB.rl]; exact hsN
   have hsf : s < fin.length := by rw [hB.fl]; exact hsN
   have hrow : rows[s]? = some rows[s] := zA hsr
   have hf : fin[s]? = some fin[s] := zA hsf
   have hmem := zE hrow
   dsimp only
   rw [idx_get, hs]
   dsimp only
   rw [idx_get, idx_get, hrow, hf]
   generalize rows[s] = row at hrow hmem
   generalize fin[s] = f at hf
   dsimp only
   have hrl := hB.row row hmem
   have hn := hB.n3
   obtain ⟨O', P', A', e, g⟩ := arcsF_to hB (i := i) row 0 O P A (hB.to row hmem) om h.inv om om
   rw [e]
   dsimp only
   split
   ·exact ⟨_, _, rfl, .inl rfl⟩
   ·rename_i hlim
    have hol : O.length ≤ O'.length := by
     have h5 : O[O.length - 1]? = some O[O.length - 1] := zA om
     have := yE (g.ext _ _ h5)
     omega
    -- the states before stay what they are
    have wold : ∀ j k d, j < O.length → Way rows cls S O' j k d → Way rows cls S O j k d := fun j k d hj ⟨c, s, r, t, b1, b2⟩ => by
     have h5 : O[j]? = some O[j] := zA hj
     have h6 := g.ext _ _ h5
     rw [b1] at h6
     exact ⟨c, s, r, t, by rw [h5, ← h6], b2⟩
    have eold : ∀ j, j < O.length → EndAt fin S O' j → EndAt fin S O j := fun j hj ⟨c, s, b1, b2⟩ => by
     have h5 : O[j]? = some O[j] := zA hj
     have h6 := g.ext _ _ h5
     rw [b1] at h6
     exact ⟨c, s, by rw [h5, ← h6], b2⟩
    have wself : ∀ k d, Way rows cls S O i k d → ∃ t : Int, row[k]? = some t ∧ 0 ≤ t ∧ cls[t.toNat]? = some (d : Int) := fun k d ⟨c', s', r, t, b1, b2, b3, b4, b5, b6⟩ => by
     rw [ho] at b1
     have : c = c' := by have := zC b1; omega
     subst this
     rw [hs] at b2
     have : s = s' := by have := zC b2; omega
     subst this
     rw [hrow] at b3
     cases b3
     exact ⟨t, b4, b5, b6⟩
    have eself : EndAt fin S O i → f = true := fun ⟨c', s', b1, b2, b3⟩ => by
     rw [ho] at b1
     have : c = c' := by have := zC b1; omega
     subst this
     rw [hs] at b2
     have : s = s' := by have := zC b2; omega
     subst this
     rw [hf] at b3
     exact zC b3
    have hnew : MacI rows fin cls S cnt (i + 1) O' P' A' (if f then F ++ [⟨i, 0⟩] else F) := by
     refine ⟨g.inv, fun a ha => ?_, fun j k d hj hw => ?_, fun x hx => ?_, fun j hj he => ?_, ?_⟩
     ·rcases g.snd a ha with h5 | ⟨k', p, d, t, b1, b2, b3, b4, b5⟩
      ·obtain ⟨j, k, p, d, b1, ⟨c, s, r, t, b2, b3⟩, b4, b5⟩ := h.snd a h5
       exact ⟨j, k, p, d, om, ⟨c, s, r, t, g.ext _ _ b2, b3⟩, g.ext _ _ b4, b5⟩
      ·rw [Nat.zero_add] at b5
       exact ⟨i, k', p, d, om, ⟨c, s, row, t, g.ext _ _ ho, hs, hrow, b1, b2, b3⟩, b4, b5⟩
     ·have hw' := wold j k d om hw
      by_cases hji : j < i
      ·obtain ⟨p, b1, b2⟩ := h.cmp j k d hji hw'
       exact ⟨p, g.ext _ _ b1, g.old _ b2⟩
      ·have : j = i := by omega
       subst this
       obtain ⟨t, b1, b2, b3⟩ := wself k d hw'
       have := g.cmp k d t b1 b2 b3
       rw [Nat.zero_add] at this
       exact this
     ·have hold : x ∈ F → ∃ j : Nat, j < i + 1 ∧ EndAt fin S O' j ∧ x = ⟨j, 0⟩ := fun h5 => by
       obtain ⟨j, b1, ⟨c, s, b2, b3⟩, b4⟩ := h.fsnd x h5
       exact ⟨j, om, ⟨c, s, g.ext _ _ b2, b3⟩, b4⟩
      split at hx
      ·rename_i hft
       rcases List.mem_append.1 hx with h5 | h5
       ·exact hold h5
       ·exact ⟨i, om, ⟨c, s, g.ext _ _ ho, hs, by rw [hf, hft]⟩, by simpa using h5⟩
      ·exact hold hx
     ·have he' := eold j om he
      by_cases hji : j < i
      ·have := h.fcmp j hji he'
       split
       ·exact List.mem_append_left _ this
       ·exact this
      ·have : j = i := by omega
       subst this
       rw [if_pos (eself he')]
       exact List.mem_append_right _ (by simp)
     ·have := h.fl
      split <;> simp <;> omega
    obtain ⟨M, f', e1, h5⟩ := outF_to hB m (i + 1) O' P' A' (if f then F ++ [⟨i, 0⟩] else F) hnew om om om om
    refine ⟨M, f', e1, ?_⟩
    rcases h5 with h5 | ⟨h5, O2, P2, b1, b2, b3, b4, b5⟩
    ·exact .inl h5
    ·exact .inr ⟨h5, O2, P2, b1, b2, b3, b4, fun j x hj => b5 j x (g.ext j x hj)⟩
def macc (M : S27) : List Nat → Int → Prop
 | [], s => ∃ x ∈ M.fFn, x.fSe = s
 | k :: w, s => ∃ a ∈ M.fAs, a.fFr = s ∧ a.fIn = (k : Int) + 1 ∧ macc M w a.fTo
structure MOk (n : Nat) (M : S27) : Prop where
 st : ∃ N : Nat, M.fSt = (N : Int) ∧ N ≤ 400
 arc : ∀ a ∈ M.fAs, ∃ i j k : Nat, a = ⟨i, j, (k : Int) + 1, (k : Int) + 1, 0⟩ ∧ (i : Int) < M.fSt ∧ (j : Int) < M.fSt ∧ k < n
 func : ∀ a ∈ M.fAs, ∀ b ∈ M.fAs, a.fFr = b.fFr → a.fIn = b.fIn → a.fTo = b.fTo
 fin : ∀ x ∈ M.fFn, ∃ i : Nat, x = ⟨i, 0⟩ ∧ (i : Int) < M.fSt
 al : M.fAs.length ≤ 2000
 fl : M.fFn.length ≤ 400
theorem mok_zero (n : Nat) : MOk n ⟨0, [], []⟩ := ⟨⟨0, rfl, om⟩, fun a h => by simp at h, fun a h => by simp at h, fun a h => by simp at h, by simp, by simp⟩
theorem macc_zero (w : List Nat) (s : Int) : ¬ macc ⟨0, [], []⟩ w s := by
 cases w with
 | nil => rintro ⟨x, h, _⟩; simp at h
 | cons k w => rintro ⟨x, h, _⟩; simp at h
theorem nat_inj {a b : Nat} (h : some (a : Int) = some (b : Int)) : a = b := by have := zC h; omega
section
variable {N n cnt : Nat} {rows : List (List Int)} {fin : List Bool} {cls S : List Int} {M : S27} {O P : List Int}
theorem way_fun (h : OutI cnt O P) {i k d d' : Nat} (h1 : Way rows cls S O i k d) (h2 : Way rows cls S O i k d') : d = d' := by
 obtain ⟨c, s, r, t, b1, b2, b3, b4, b5, b6⟩ := h1
 obtain ⟨c', s', r', t', e1, e2, e3, e4, e5, e6⟩ := h2
 rw [b1] at e1
 have := nat_inj e1
 subst this
 rw [b2] at e2
 have := nat_inj e2
 subst this
 rw [b3] at e3
 cases e3
 rw [b4] at e4
 cases e4
 rw [b6] at e6
 exact nat_inj e6
theorem mac_ok (hB : Ba N n cnt rows fin cls S) (h : MacI rows fin cls S cnt O.length O P M.fAs M.fFn) (hst : M.fSt = (O.length : Int)) (hO : O.length ≤ 400) (hA : M.fAs.length ≤ 2000) : MOk n M := by
 refine ⟨⟨_, hst, hO⟩, fun a ha => ?_, fun a ha b hb h1 h2 => ?_, fun x hx => ?_, hA, Nat.le_trans h.fl hO⟩
 ·obtain ⟨j, k, p, d, b1, ⟨c, s, r, t, b2, b3, b4, b5, _⟩, b6, b7⟩ := h.snd a ha
  have hp := yE b6
  have hk := yE b5
  rw [hB.row r (zE b4)] at hk
  exact ⟨j, p, k, b7, om, om, hk⟩
 ·obtain ⟨j, k, p, d, b1, b2, b6, b7⟩ := h.snd a ha
  obtain ⟨j', k', p', d', e1, e2, e6, e7⟩ := h.snd b hb
  subst b7 e7
  have hj : j = j' := by have : (j : Int) = j' := h1; omega
  have hk : k = k' := by have : (k : Int) + 1 = k' + 1 := h2; omega
  subst hj hk
  have := way_fun h.inv b2 e2
  subst this
  have p1 := h.inv.po _ _ b6
  have p2 := h.inv.po _ _ e6
  rw [p1] at p2
  exact zC p2
 ·obtain ⟨j, b1, _, b2⟩ := h.fsnd x hx
  exact ⟨j, b2, om⟩
theorem mac_acc (hB : Ba N n cnt rows fin cls S) (h : MacI rows fin cls S cnt O.length O P M.fAs M.fFn) : ∀ (w : List Nat) (i c s : Nat), O[i]? = some (c : Int) → S[c]? = some (s : Int) → s < N → (macc M w (i : Int) ↔ tacc rows fin w (s : Int) = true)
 | [], i, c, s, h1, h2, hs => by
  have hi := yE h1
  unfold macc tacc
  rw [zN]
  constructor
  ·rintro ⟨x, hx, he⟩
   obtain ⟨j, b1, ⟨c', s', b2, b3, b4⟩, b5⟩ := h.fsnd x hx
   subst b5
   have : j = i := by have : (j : Int) = i := he; omega
   subst this
   rw [h1] at b2
   have := nat_inj b2
   subst this
   rw [h2] at b3
   have := nat_inj b3
   subst this
   rw [b4]
   simp
  ·intro ht
   have hf : fin[s]? = some true := by
    cases hx : fin[s]? with
    | none => rw [hx] at ht; simp at ht
    | some b => rw [hx] at ht; simp at ht; rw [ht]
   exact ⟨_, h.fcmp i hi ⟨c, s, h1, h2, hf⟩, rfl⟩
 | k :: w, i, c, s, h1, h2, hs => by
  have hi := yE h1
  have hrow : ∃ row, rows[s]? = some row := ⟨_, zA (by rw [hB.rl]; exact hs)⟩
  obtain ⟨row, hrow⟩ := hrow
  unfold macc tacc
  rw [zN, hrow]
  dsimp only
  have next : ∀ (t : Int) (d p : Nat), row[k]? = some t → 0 ≤ t → cls[t.toNat]? = some (d : Int) → O[p]? = some (d : Int) → (macc M w (p : Int) ↔ tacc rows fin w t = true) := fun t d p ht h0 hd hp => by
   have htN := hB.to row (zE hrow) t (zE ht)
   obtain ⟨y, y1, y2⟩ := hB.so _ _ hd
   have hyN := yE y2
   rw [hB.cl.len] at hyN
   have e1 := cls_acc hB.rl hB.to hB.cl hB.st w y t.toNat hyN om (by rw [y2, hd])
   rw [show ((t.toNat : Nat) : Int) = t by omega] at e1
   rw [← e1]
   exact mac_acc hB h w p d y hp y1 hyN
  constructor
  ·rintro ⟨a, ha, e1, e2, e3⟩
   obtain ⟨j, k', p, d, b1, ⟨c', s', r, t, b2, b3, b4, b5, b6, b7⟩, b8, b9⟩ := h.snd a ha
   subst b9
   have hj : j = i := by have : (j : Int) = i := e1; omega
   have hk : k' = k := by have : (k' : Int) + 1 = k + 1 := e2; omega
   subst hj hk
   rw [h1] at b2
   have := nat_inj b2
   subst this
   rw [h2] at b3
   have := nat_inj b3
   subst this
   rw [hrow] at b4
   cases b4
   rw [b5]
   have := (next t d p b5 b6 b7 b8).1 e3
   simp [this]
  ·intro ht
   cases hx : row[k]? with
   | none => rw [hx] at ht; simp at ht
   | some t =>
    rw [hx] at ht
    have ht : tacc rows fin w t = true := by simpa using ht
    have h0 : 0 ≤ t := by
     apply Classical.byContradiction
     intro hn
     rw [tacc_neg om] at ht
     cases ht
    have htN := hB.to row (zE hrow) t (zE hx)
    obtain ⟨d, hd, _⟩ := hB.cl.val t.toNat om
    obtain ⟨p, b1, b2⟩ := h.cmp i k d hi ⟨c, s, row, t, h1, h2, hrow, hx, h0, hd⟩
    exact ⟨_, b2, rfl, rfl, (next t d p hx h0 hd b1).2 ht⟩
end
theorem f47_to {next : List (List Int)} {fin : List Bool} {n : Nat} (hn : n ≤ 300) (hok : OkT next fin n) (m : Nat) (hm : 10000000 ≤ m) :
  ∃ M f, f47 m (numL n) next fin = some (M, f) ∧ (f = ⟨17, -1⟩ ∨ f = ⟨0, 0⟩ ∧ MOk n M ∧ ∀ w, macc M w 0 ↔ tacc next fin w 0 = true) := by
 obtain ⟨N, hN⟩ : ∃ N, next.length = N := ⟨_, rfl⟩
 have hN2 : N ≤ 20000 := by rw [← hN]; exact hok.len
 have hfl : fin.length = N := by rw [hok.fin, hN]
 have hnN : n * N ≤ 6000000 := Nat.le_trans (Nat.mul_le_mul hn hN2) om
 have htot : total (List.replicate N ([] : List Int)) = 0 := by simp [total]
 have hto : ∀ r ∈ next, ∀ t ∈ r, t < (N : Int) := fun r hr t ht => by have := (hok.to r hr t ht).2; omega
 unfold f47
 rw [if_pos ⟨om, by
  rw [zZ]
  intro r h
  have := hok.row r h
  simp; omega⟩]
 obtain ⟨B, T, e1, g1⟩ := bkAll_to (fin := fin) (n := n) next 0 (List.replicate N []) [] (fun r hr => ⟨hok.row r hr, fun t ht => by rw [zV]; exact hto r hr t ht⟩) om (by rw [htot, hN]; omega) (by simp; omega)
 rw [hN, e1]
 dsimp only
 have hBl : B.length = N := by rw [g1.len, zV]
 have hrep : ∀ (j : Nat) l, (List.replicate N ([] : List Int))[j]? = some l → l = [] := fun j l h => by
  rw [zU] at h
  split at h
  ·exact (zC h).symm
  ·cases h
 have htt := g1.tot
 rw [htot, hN] at htt
 have htl := g1.tl
 simp only [List.length_nil] at htl
 have hct := cost_le B (List.replicate N false)
 obtain ⟨U, e2, g2⟩ := dfs_to hBl (fun l hl x hx => by
  obtain ⟨j, hj⟩ := List.getElem?_of_mem hl
  obtain ⟨l0, a1, a2⟩ := g1.back j l hj
  rw [hrep _ _ a1] at a2
  rcases a2 x hx with h | h
  ·simp at h
  ·rw [hN] at h; omega) om m T (List.replicate N false) (by simp) (fun x hx => by
  rcases g1.tback x hx with h | h
  ·simp at h
  ·rw [hN] at h; omega) om om
 rw [e2]
 dsimp only
 have hUl : U.length = N := by rw [g2.len, zV]
 have huse : ∀ w s, tacc next fin w s = true → U[s.toNat]? = some true := by
  intro w
  induction w with
  | nil =>
   intro s h
   unfold tacc at h
   have h0 : 0 ≤ s := by
    apply Classical.byContradiction
    intro hn
    simp [hn] at h
   have hf : fin[s.toNat]? = some true := by
    cases hx : fin[s.toNat]? with
    | none => rw [hx] at h; simp at h
    | some b => rw [hx] at h; simp at h; rw [h.2]
   have := g1.tnew s.toNat (by have := yE hf; omega) (by rw [Nat.zero_add]; exact hf)
   have := g2.todo _ this
   rwa [Nat.zero_add, zN] at this
  | cons k w ih =>
   intro s h
   unfold tacc at h
   have h0 : 0 ≤ s := by
    apply Classical.byContradiction
    intro hn
    simp [hn] at h
   cases hx : next[s.toNat]? with
   | none => rw [hx] at h; simp at h
   | some row =>
    rw [hx] at h
    dsimp only at h
    cases hy : row[k]? with
    | none => rw [hy] at h; simp at h
    | some t =>
     rw [hy] at h
     have ht : tacc next fin w t = true := by simp at h; exact h.2
     have ht0 : 0 ≤ t := by
      apply Classical.byContradiction
      intro hn
      rw [tacc_neg om] at ht
      cases ht
     have htN := hto row (zE hx) t (zE hy)
     obtain ⟨l, a1, a2⟩ := g1.new s.toNat row hx t (zE hy) ht0
     have := g2.close t.toNat l a1 (by rw [zU, if_pos om]) (ih t ht) _ a2
     rwa [Nat.zero_add, zN] at this
 have none : U[0]? ≠ some true → ∀ w, ¬ tacc next fin w 0 = true := fun h w hw => h (by simpa using huse w 0 hw)
 have bad : U[0]? ≠ some true → ∃ M f, (some ((⟨0, [], []⟩ : S27), (⟨0, 0⟩ : S29))) = some (M, f) ∧ (f = ⟨17, -1⟩ ∨ f = ⟨0, 0⟩ ∧ MOk n M ∧ ∀ w, macc M w 0 ↔ tacc next fin w 0 = true) := fun h =>
  ⟨_, _, rfl, .inr ⟨rfl, mok_zero n, fun w => ⟨fun hh => absurd hh (macc_zero w 0), fun hh => absurd hh (none h w)⟩⟩⟩
 cases hu : U[0]? with
 | none => exact bad (by rw [hu]; simp)
 | some u =>
  cases u with
  | false => exact bad (by rw [hu]; simp)
  | true =>
   have hN0 : 0 < N := by have := yE hu; omega
   dsimp only
   rw [cutAll_eq next fun r hr t ht => by rw [hUl]; exact hto r hr t ht]
   dsimp only
   have hcut := fun w => cut_acc (next := next) (fin := fin) (U := U) huse w 0
   obtain ⟨rows, hrows⟩ : ∃ rows, next.map (List.map (cutT U)) = rows := ⟨_, rfl⟩
   have hrl : rows.length = N := by rw [← hrows, List.length_map, hN]
   have hrn : ∀ r ∈ rows, r.length = n := fun r hr => by
    rw [← hrows] at hr
    obtain ⟨r0, a1, rfl⟩ := List.mem_map.1 hr
    rw [List.length_map, hok.row r0 a1]
   have hrt : ∀ r ∈ rows, ∀ t ∈ r, t < (N : Int) := fun r hr t ht => by
    rw [← hrows] at hr
    obtain ⟨r0, a1, rfl⟩ := List.mem_map.1 hr
    obtain ⟨t0, a2, rfl⟩ := List.mem_map.1 ht
    have := hto r0 a1 t0 a2
    unfold cutT
    split
    ·split
     ·exact this
     ·omega
    ·exact this
   rw [hrows] at hcut ⊢
   obtain ⟨cls, c, e3, k1, k2, k3, k4⟩ := f66_to hn hrn hrl hN2 hfl hrt m om
   unfold f47b
   rw [e3]
   dsimp only
   rw [if_pos ⟨om, om⟩, zN]
   have hc0 := k4 hN0
   obtain ⟨S, e4, s1, s2, s3⟩ := somes_to cls 0 (List.replicate c 0) (fun x hx => by
    obtain ⟨i, hi⟩ := List.getElem?_of_mem hx
    have hil := yE hi
    rw [k1.len] at hil
    obtain ⟨j, a1, _⟩ := k1.val i hil
    rw [a1] at hi
    cases hi
    have := k1.lt hc0 i j a1
    rw [zV]
    omega)
   obtain ⟨c0, h0, _⟩ := k1.val 0 hN0
   have hc0c := k1.lt hc0 0 c0 h0
   rw [e4, h0]
   dsimp only
   have hupd : upd (List.replicate c (-1 : Int)) (c0 : Int) 0 = some ((List.replicate c (-1 : Int)).set c0 0) := by
    unfold upd
    rw [if_pos ⟨om, by rw [zN, zV]; exact hc0c⟩, zN]
   rw [hupd]
   dsimp only
   have hBa : Ba N n c rows fin cls S := ⟨hrl, hN2, hfl, hrn, hrt, k1, hc0, k2, fun x d hx => by
    obtain ⟨j, a1, a2⟩ := s3 x d hx
    rw [Nat.zero_add] at a2
    exact ⟨j, a2, a1⟩, by rw [s1, zV], hn⟩
   have hOI : OutI c [(c0 : Int)] ((List.replicate c (-1 : Int)).set c0 0) := by
    refine ⟨by simp, fun i x hi => ?_, fun i d hi => ?_, fun d p hd hp => ?_⟩
    ·cases i with
     | zero => simp at hi; exact ⟨c0, hi.symm, hc0c⟩
     | succ i => simp at hi
    ·cases i with
     | zero =>
      have := nat_inj hi
      subst this
      rw [zQ (by simpa using hc0c)]
      rfl
     | succ i => simp at hi
    ·by_cases e : c0 = d
     ·subst e
      rw [zQ (by simpa using hc0c)] at hd
      cases hd
      rfl
     ·rw [zO e, zU] at hd
      split at hd
      ·have := zC hd; omega
      ·cases hd
   obtain ⟨M, f, e5, h5⟩ := outF_to hBa 1000 0 [(c0 : Int)] ((List.replicate c (-1 : Int)).set c0 0) [] [] ⟨hOI, fun a ha => by simp at ha, fun j k d hj => absurd hj (Nat.not_lt_zero _), fun x hx => by simp at hx, fun j hj => absurd hj (Nat.not_lt_zero _), by simp⟩ (Nat.zero_le _) (by simp) (by simp) om
   refine ⟨M, f, e5, ?_⟩
   rcases h5 with h5 | ⟨h5, O, P, a1, a2, a3, a4, a5⟩
   ·exact .inl h5
   ·refine .inr ⟨h5, mac_ok hBa a2 a1 a3 a4, fun w => ?_⟩
    have hO0 : O[0]? = some (c0 : Int) := a5 0 _ rfl
    obtain ⟨y, y1, y2⟩ := hBa.so 0 c0 h0
    have hyN := yE y2
    rw [k1.len] at hyN
    have e6 := mac_acc hBa a2 w 0 c0 y hO0 y1 hyN
    have e7 := cls_acc hrl hrt k1 k2 w y 0 hyN hN0 (by rw [y2, h0])
    rw [e7] at e6
    have e8 := hcut w
    rw [show ((0 : Nat) : Int) = 0 from rfl] at e6
    rw [e8] at e6
    exact e6
end Go.Abs.Pl
