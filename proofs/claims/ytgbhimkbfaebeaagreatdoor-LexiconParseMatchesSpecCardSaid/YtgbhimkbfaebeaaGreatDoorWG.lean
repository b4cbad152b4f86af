import Derived.Test.YtgbhimkbfaebeaaGreatDoorRows
import Derived.Test.YtgbhimkbfaebeaaGreatDoorShelf
import Derived.Test.YtgbhimkbfaebeaaGreatDoorAbsL
import Derived.Lib.LaidU8
import Derived.Lib.LaidTab
import Derived.LaidLaws
import Derived.Shelf.Vars
import Derived.WalkKit
import Derived.ProofKit
import Derived.OpenShut
import Derived.Deep.DeepHandedRow
namespace Go.Proofs.YtgbhimkbfaebeaaGreatDoor
open Go.ChangeShapes Go.WideShapes Go.ChangeAt Go.RowKit
open Go.Abs
set_option linter.unusedVariables false
set_option linter.unusedSimpArgs false
set_option linter.unnecessarySimpa false
theorem firstIs : Rows.laid_unicode_utf8_first = Lib.firstData := by kernel_rfl
theorem acceptIs : (Rows.laid_unicode_utf8_acceptRanges : DataW Unit) = Lib.acceptData := by kernel_rfl
theorem powIs : (Rows.laid_internal_strconv_uint64pow10 : DataW Unit) = Lib.tabData .u64 Lib.pow10Tab := by kernel_rfl
theorem extra : U8Extra Tryz.prog Tryz.lays260_ren := ⟨by kernel_rfl, by kernel_rfl, by kernel_rfl, by kernel_rfl, by kernel_rfl, by kernel_rfl, by kernel_rfl⟩
theorem var_iface {W : World} {n name : String} {d : DataW Unit} {g ti : Nat} {ms : Array (String × TypeId)} (h : Lib.VarReads Tryz.prog W n (.iface name d)) (hg : Tryz.prog.globalNamed n = some g) (hty : (Tryz.prog.globals[g]?).map (·.type) = some ti) (hi : Tryz.prog.underlying ti = some (.interface ms)) :
  ∃ te pe, W.cell? ⟨g, 0, none⟩ = some (.iface te pe) := by
 obtain ⟨g', t, cs, fuel, p, h1, h2, h3, h4⟩ := h
 obtain rfl := Option.some.inj (hg.symm.trans h1)
 obtain rfl := Option.some.inj (hty.symm.trans h2)
 obtain ⟨f', u, v, hc, _⟩ := iface_of_trod hi h4
 refine ⟨u, v, ?_⟩
 rw [World.var?_cell hg h3 0, ← Array.getElem?_toList, hc]
 rfl
theorem var_tab {W : World} (h : Lib.VarReads Tryz.prog W "internal/strconv.uint64pow10" (Lib.tabData .u64 Lib.pow10Tab)) {t e : Nat} (hty : (Tryz.prog.globals[1]?).map (·.type) = some t) (ht : Tryz.prog.underlying t = some (.array 20 e)) (he : Tryz.prog.underlying e = some (.int .u64)) (hce : Tryz.prog.cellsOf e = 1) (hct : Tryz.prog.cellsOf t = 20) :
  Lib.TabIs Tryz.prog W "internal/strconv.uint64pow10" .u64 Lib.pow10Tab := by
 obtain ⟨g', t', cs, fuel, p, h1, h2, h3, h4⟩ := h
 have hg : Tryz.prog.globalNamed "internal/strconv.uint64pow10" = some 1 := by kernel_rfl
 obtain rfl := Option.some.inj (hg.symm.trans h1)
 obtain rfl := Option.some.inj (hty.symm.trans h2)
 unfold Lib.TabIs
 rw [h3, ← Lib.cells_of_tab ht he hce hct h4]
theorem globOf {W : World} (h : laidMet Tryz.prog [("math/bits.deBruijn32tab", Rows.laid_math_bits_deBruijn32tab), ("math/bits.deBruijn64tab", Rows.laid_math_bits_deBruijn64tab), ("internal/strconv.uint64pow10", Rows.laid_internal_strconv_uint64pow10), ("unicode/utf8.acceptRanges", Rows.laid_unicode_utf8_acceptRanges), ("strconv.ErrRange", Rows.laid_strconv_ErrRange), ("strconv.ErrSyntax", Rows.laid_strconv_ErrSyntax), ("unicode/utf8.first", Rows.laid_unicode_utf8_first)] W)
  (hsh : W.ShapedOpen Tryz.prog) : Glob (there W) W := by
 have r1 := Lib.laidMet.reads h (n := "unicode/utf8.first") (d := Rows.laid_unicode_utf8_first) (by simp)
 have r2 := Lib.laidMet.reads h (n := "unicode/utf8.acceptRanges") (d := Rows.laid_unicode_utf8_acceptRanges) (by simp)
 have r3 := Lib.laidMet.reads h (n := "internal/strconv.uint64pow10") (d := Rows.laid_internal_strconv_uint64pow10) (by simp)
 have r4 := Lib.laidMet.reads h (n := "strconv.ErrSyntax") (d := Rows.laid_strconv_ErrSyntax) (by simp)
 have r5 := Lib.laidMet.reads h (n := "strconv.ErrRange") (d := Rows.laid_strconv_ErrRange) (by simp)
 rw [firstIs] at r1
 rw [acceptIs] at r2
 rw [powIs] at r3
 obtain ⟨t1, t2⟩ := utf8Tabs_of_reads Tryz.lays260 extra r1 r2
 have t3 := var_tab r3 (t := 121) (e := 84) (by kernel_rfl) (by kernel_rfl) (by kernel_rfl) (by kernel_rfl) (by kernel_rfl)
 have hg3 : Tryz.prog.globalNamed "internal/strconv.uint64pow10" = some 1 := by kernel_rfl
 have e4 := var_iface r4 (g := 4) (ti := 68) (by kernel_rfl) (by kernel_rfl) (ms := #[("Error", 71)]) (by kernel_rfl)
 have e5 := var_iface r5 (g := 5) (ti := 68) (by kernel_rfl) (by kernel_rfl) (ms := #[("Error", 71)]) (by kernel_rfl)
 have e0 : ∃ m, W.cell? ⟨0, 0, none⟩ = some (.int .i64 m) := cell_of_shapedOpen_int (zero := #[.int .i64 0]) (t := 3) hsh (of_decide_eq_true (by kernel_rfl)) (by kernel_rfl) rfl (by kernel_rfl) (by kernel_rfl) Tryz.underlying3
 have c3 : ∀ i, i < 20 → W.cell? ⟨1, i, none⟩ = some (.int .u64 (Lib.pow10Tab.getD i 0)) := fun i hi => Lib.TabIs.cell t3 hg3 i (by show i < (Lib.pow10Tab).length; unfold Lib.pow10Tab; simpa using hi)
 refine ⟨?_, ?_⟩
 ·intro g cells hg j x hx
  unfold G0 at hg
  split at hg
  ·cases hg
   unfold powTab at hx
   rw [List.getElem?_map] at hx
   obtain ⟨z, hz, rfl⟩ := Option.map_eq_some_iff.1 hx
   have hj : j < 20 := by
    have := (List.getElem?_eq_some_iff.1 hz).1
    simpa [Lib.pow10Tab] using this
   have hc := c3 j hj
   have hzz : Lib.pow10Tab.getD j 0 = z := by rw [List.getD, hz]; rfl
   rw [hzz] at hc
   exact ⟨World.block_lt_of_cell? W _ hc, _, hc, .int _ _⟩
  ·cases hg
   have hj : j < 256 := by
    rcases Nat.lt_or_ge j 256 with h | h
    ·exact h
    ·rw [List.getElem?_eq_none (by unfold Abs.firstTab; rw [List.length_map, List.length_range]; exact h)] at hx; cases hx
   unfold Abs.firstTab at hx
   rw [List.getElem?_map, List.getElem?_range hj] at hx
   cases hx
   exact ⟨World.block_lt_of_cell? W _ (t1 j hj), _, t1 j hj, .int _ _⟩
  ·cases hg
   have hj : j < 32 := by
    rcases Nat.lt_or_ge j 32 with h | h
    ·exact h
    ·rw [List.getElem?_eq_none (by unfold acceptTab; rw [List.length_map, List.length_range]; exact h)] at hx; cases hx
   unfold acceptTab at hx
   rw [List.getElem?_map, List.getElem?_range hj] at hx
   cases hx
   obtain ⟨a, b⟩ := t2 (j / 2) (by omega)
   by_cases he : j % 2 = 0
   ·rw [show 2 * (j / 2) = j by omega] at a
    dsimp only
    rw [if_pos he]
    exact ⟨World.block_lt_of_cell? W _ a, _, a, .int _ _⟩
   ·rw [show 2 * (j / 2) + 1 = j by omega] at b
    dsimp only
    rw [if_neg he]
    exact ⟨World.block_lt_of_cell? W _ b, _, b, .int _ _⟩
  ·cases hg
 ·intro g j p hp
  unfold GP at hp
  split at hp
  ·rw [List.mem_singleton] at hp
   cases hp
   obtain ⟨m, hm⟩ := e0
   exact ⟨World.block_lt_of_cell? W _ hm, m, hm⟩
  ·rw [List.mem_singleton] at hp
   cases hp
   refine ⟨World.block_lt_of_cell? W _ (c3 0 (by omega)), ?_⟩
   show W.cell? ⟨1, 20, none⟩ = none
   rw [World.var?_cell hg3 t3 20]
   simp [Lib.pow10Tab]
  ·rw [List.mem_singleton] at hp
   cases hp
   obtain ⟨u, v, hm⟩ := e4
   exact ⟨World.block_lt_of_cell? W _ hm, u, v, hm⟩
  ·rw [List.mem_singleton] at hp
   cases hp
   obtain ⟨u, v, hm⟩ := e5
   exact ⟨World.block_lt_of_cell? W _ hm, u, v, hm⟩
  ·cases hp
end Go.Proofs.YtgbhimkbfaebeaaGreatDoor
