import Derived.Test.YtbeegandhppniaaAbsM
import Derived.Test.YtbeegandhppniaaProg
import Derived.Shelf.Spec.SlicesGrow
import Derived.KernelRfl
namespace Go.Abs
set_option linter.unusedVariables false
set_option linter.unusedSimpArgs false
set_option linter.unnecessarySimpa false
variable {DR : Prop}
def AG.grown (n : Int) : AG := if 0 < n then .tok else .fl .nil
def growF (k bytes : Nat) : List D → List AObj → Option (D × List AObj)
 | [.v (.sl .nil []), .v (.int .i64 n)], h => if 0 ≤ n ∧ n.toNat * bytes ≤ 140737488355328 ∧ n.toNat ≤ 4611686018427387904 then some (AG.d (AG.grown n) h.length [], h ++ [AG.o (AG.grown n) k []]) else none
 | _, _ => none
theorem grow_sound {P : Program} {f k bytes e : Nat} (hI : Is P f) (hk : 0 < k) (z : Value) (hz : z.cells.size = k)
  (h0 : ∀ w : World, Calls P f #[.slice none 0 0, .int .i64 0] w fun ex w' => ex = .returned (.slice none 0 0) ∧ w' = w)
  (hn : ∀ (n : Nat) (w : World), 0 < n → n * bytes ≤ 140737488355328 → n ≤ 4611686018427387904 → Calls P f #[.slice none 0 0, .int .i64 n] w fun ex w' =>
   ex = .returned (.slice (some ⟨w.heap.size, 0, none⟩) 0 (grownCap w n 0 e)) ∧ w' = w.drew.alloc (.cells (Builtin.zeroCells z.cells n ++ Builtin.zeroCells z.cells (grownCap w n 0 e - n)) e)) : DOk DR P f (growF k bytes) := by
 refine ⟨hI, fun ds h d h' hd S β w vs hrel hi => ?_⟩
 unfold growF at hd
 split at hd
 case h_2 => cases hd
 rename_i h0' n
 split at hd
 case isFalse => cases hd
 rename_i hc
 obtain ⟨hc0, hc1, hc2⟩ := hc
 obtain ⟨rfl, rfl⟩ := Prod.mk.inj (Option.some.inj hd)
 obtain ⟨v1, v2, rfl⟩ := size_two (show vs.size = 2 from hrel.1)
 have r1 := (hrel.2 0 v1 _ rfl rfl).of_v
 have r2 := (hrel.2 1 v2 _ rfl rfl).of_v
 cases r2
 obtain ⟨m, rfl⟩ : ∃ m : Nat, n = (m : Int) := ⟨n.toNat, by omega⟩
 rw [Int.toNat_natCast] at hc1 hc2
 cases r1 with
 | slemp _ a cap h hf hm => exact absurd rfl h
 | sl _ b off cap k n _ vals hn' h => exact absurd rfl h
 | slnil _ hnil =>
 by_cases hm : m = 0
 ·subst hm
  have eg : AG.grown ((0 : Nat) : Int) = .fl .nil := rfl
  rw [eg]
  refine (h0 w).mono ?_
  rintro ex w' ⟨rfl, rfl⟩
  obtain ⟨e1, e2⟩ := hi.pad (DR := DR)
  exact ⟨_, S, _, rfl, e1, e2, .v _ _ (.slnil _ hnil)⟩
 ·have eg : AG.grown (m : Int) = .tok := by unfold AG.grown; rw [if_pos (by omega)]
  rw [eg]
  refine (hn m w (by omega) hc1 hc2).mono ?_
  rintro ex w' ⟨rfl, rfl⟩
  have hge := grownCap_ge w m 0 e
  have hcm := grownCap_le_maxLen w m 0 e (by unfold maxLen; omega)
  have hsz : (Builtin.zeroCells z.cells m ++ Builtin.zeroCells z.cells (grownCap w m 0 e - m)).size = grownCap w m 0 e * k := by
   simp only [Array.size_append, size_zeros, hz, ← Nat.add_mul]
   congr 1; omega
  obtain ⟨e1, e2⟩ := tok_alloc (DR := DR) hi.drew (Builtin.zeroCells z.cells m ++ Builtin.zeroCells z.cells (grownCap w m 0 e - m)) e (grownCap w m 0 e) k 0 hk hcm (Nat.zero_le _) hsz
  refine ⟨_, _, _, rfl, (Ext.drew S β w).trans e1, e2, ?_⟩
  refine .tsl _ w.heap.size (grownCap w m 0 e) k 0 [] (by rw [← hi.len]; simp) rfl (fun i x hx => by simp at hx) ?_
  exact .slemp _ _ _ (by decide) (fun h => by cases h) hcm
theorem row_grow (h : List AObj) (k bytes : Nat) (n : Int) (h0 : 0 ≤ n) (h1 : n.toNat * bytes ≤ 140737488355328) (h2 : n.toNat ≤ 4611686018427387904) : growF k bytes [.v (.sl .nil []), .v (.int .i64 n)] h = some (AG.d (AG.grown n) h.length [], h ++ [AG.o (AG.grown n) k []]) := by
 exact if_pos ⟨h0, h1, h2⟩
def grw (bytes : Nat) (n : Int) : Option Unit := if 0 ≤ n ∧ n.toNat * bytes ≤ 140737488355328 ∧ n.toNat ≤ 4611686018427387904 then some () else none
theorem row_growT (h : List AObj) (k bytes : Nat) (n : Int) (u : Unit) (e : grw bytes n = some u) : growF k bytes [.v (.sl .nil []), .v (.int .i64 n)] h = some (AG.d (AG.grown n) h.length [], h ++ [AG.o (AG.grown n) k []]) := by
 unfold grw at e
 split at e
 ·rename_i hc; exact row_grow h k bytes n hc.1 hc.2.1 hc.2.2
 ·cases e
end Go.Abs
namespace Go.Proofs
open Go.Shelf
set_option maxRecDepth 100000
def Try.grow_ren : Go.Shelf.Ren := ⟨fun | 4 => 46 | n => n, fun | 25 => 3 | 22 => 22 | n => n, fun | n => n⟩
theorem Try.grow_lays : Lays8.n4 Try.prog Try.grow_ren := {
 mixed := by kernel_rfl
 f4 := ⟨"slices.Grow[[]int,int]", by kernel_rfl, Try.func46.trans (congrArg some (by kernel_rfl))⟩
 t0 := Try.underlying0
 a0 := Try.isAgg0
 z0 := Try.sizeOf0
 v0 := Try.zeroValue0
 t3 := Try.underlying3
 a3 := Try.isAgg3
 z3 := Try.sizeOf3
 v3 := Try.zeroValue3
 t4 := Try.underlying4
 a4 := Try.isAgg4
 z4 := Try.sizeOf4
 v4 := Try.zeroValue4
 t9 := Try.underlying9
 a9 := Try.isAgg9
 z9 := Try.sizeOf9
 v9 := Try.zeroValue9
 t20 := Try.underlying20
 a20 := Try.isAgg20
 z20 := Try.sizeOf20
 v20 := Try.zeroValue20
 t22 := Try.underlying22
 a22 := Try.isAgg22
 z22 := Try.sizeOf22
 v22 := Try.zeroValue22 }
end Go.Proofs
namespace Go.Abs
open Go.Proofs
theorem grow46 (hI : Is Try.prog 46) : DOk False Try.prog 46 (growF 1 8) := by
 refine grow_sound (e := 3) hI (by decide) (.int .i64 0) rfl (fun w => Any8.slices_Grow_room Try.grow_lays none 0 0 0 w (by omega) (by omega) (by omega) (by omega)) (fun n w h0 h1 h2 => ?_)
 have hh : (Try.prog.info? 3).map (fun i => (i.bytes, i.size, i.zero)) = some (8, 1, some (.int .i64 0)) := by kernel_rfl
 obtain ⟨i0, hi0, he⟩ := Option.map_eq_some_iff.1 hh
 obtain ⟨hb, he⟩ := Prod.mk.inj he
 obtain ⟨hs, hz⟩ := Prod.mk.inj he
 have := Any8.slices_Grow_grow Try.grow_lays i0 (.int .i64 0) hi0 hz (by omega) none 0 0 n [] w (Nat.le_refl _) (by omega) (by rw [Nat.zero_add, hb]; exact h1) (by omega) (by simp) (fun _ => rfl) (fun a h => by cases h)
 simp only [Nat.zero_add, Nat.sub_zero] at this
 have e : ([] : List Value).toArray = #[] := rfl
 rw [e, Array.empty_append] at this
 exact this
end Go.Abs
