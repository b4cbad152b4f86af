import Derived.Test.YtckocapmogfhkaaDoorWF1
import Derived.Test.YtckocapmogfhkaaDoorAbsTO
import Derived.Test.YtckocapmogfhkaaDoorAbsRw
import Derived.Test.YtckocapmogfhkaaDoorAbsHC
import Derived.Test.YtckocapmogfhkaaDoorShelf
import Derived.Shelf.SlSortCmp.NoneTotal
import Derived.Test.YtckocapmogfhkaaDoorSL
namespace Go.Abs
open Go.Sort Go.Proofs
set_option linter.unusedVariables false
set_option maxRecDepth 100000
def keyA (x : S40) : Int × Int × Int × Int × Int := (x.fFrom, x.fIn, x.fOut, x.fTo, x.fWeight)
def cmpA (x y : S40) : Int := prodC cmpI (prodC cmpI (prodC cmpI (prodC cmpI cmpI))) (keyA x) (keyA y)
theorem toA : TO cmpA := (toI.prod (toI.prod (toI.prod (toI.prod toI)))).comap keyA fun x y h => by
 cases x; cases y
 simp only [keyA, Prod.mk.injEq] at h
 obtain ⟨rfl, rfl, rfl, rfl, rfl⟩ := h
 rfl
theorem cmpA_orr (x y : S40) : cmpA x y = orr [cmpI x.fFrom y.fFrom, cmpI x.fIn y.fIn, cmpI x.fOut y.fOut, cmpI x.fTo y.fTo, cmpI x.fWeight y.fWeight] := by
 simp only [cmpA, keyA, prodC, lexC, orr]
 repeat' split
 all_goals first | rfl | omega | (simp_all; done)
theorem f30_eq (m : Nat) (x y : Int) : f30 m x y = some (cmpI x y) := by
 have h : ∀ z : Int, f53 m z = some false := fun z => by unfold f53; simp
 unfold f30 cmpI
 simp only [h, bnd, cnd]
 by_cases h1 : x < y
 ·simp [h1]
 ·by_cases h2 : x > y <;> simp [h1, h2]
theorem f29_eq (m : Nat) (l : List Int) (hl : l.length < m) (hb : l.length ≤ 9223372036854775807) : f29 m l = some (orr l) := by
 have e : iter (fun (y : Int) => f29_B1 m l y) m 0 = landed (fun (_ : Unit) (i : Int) => i) l.length (scan (fun _ (_ : Unit) (x : Int) => if x ≠ 0 then some (.inl x) else some (.inr ())) 0 () l) := by
  refine iter_scan l (fun (y : Int) => f29_B1 m l y) (fun (_ : Unit) (i : Int) => i) _ (fun u i hi => ?_) m 0 () (by omega) (by omega)
  unfold f29_B1
  refine body_turn rfl fun x hx => ?_
  have hil := lt_of_getElem? hx
  have hw : w64 ((i : Int) + 1) = (i : Int) + 1 := w64_id ⟨by omega, by omega⟩
  by_cases h : x = 0
  ·simp [h, hw]
  ·have : (x != 0) = true := by simpa using h
   simp [h, this]
 unfold f29
 rw [e, scan_orr]
 by_cases h : orr l = 0
 ·simp [h, landed]
 ·simp [h, landed]
theorem f13_eq (m : Nat) (x y : S40) (hm : 6 ≤ m) : f13 m x y = some (cmpA x y) := by
 unfold f13
 rw [f30_eq, bnd_some', f30_eq, bnd_some', f30_eq, bnd_some', f30_eq, bnd_some', f30_eq, bnd_some', f29_eq m _ (by simp; omega) (by simp), bnd_some', cmpA_orr]
theorem cmp13 : CmpOk Proofs.Tryd.prog 13 e40 cmpA := by
 intro x y S w us hrel hs hg
 obtain ⟨d, h', h1, h2⟩ := ok13 6 x y (cmpA x y) (f13_eq _ x y (by omega)) 20 (by omega)
 refine ((pureCalls (good0 (DR := True)) (xs := [e40 x, e40 y]) h1 h2).2 S w us hrel hs hg).mono ?_
 rintro e w' ⟨v, S', rfl, hE, _, hR⟩
 cases hR
 exact ⟨rfl, S', hE⟩
def decA : V → Option S40
 | .agg [.int .i64 a, .int .i64 b, .int .i64 c, .int .i64 d, .int .i64 e] => some ⟨a, b, c, d, e⟩
 | _ => none
theorem decA_spec {v : V} {a : S40} (h : decA v = some a) : v = e40 a := by
 unfold decA at h
 split at h
 ·cases h; rfl
 ·cases h
theorem decA_e (a : S40) : decA (e40 a) = some a := rfl
theorem allM_decA (l : List S40) : allM decA (l.map e40) = some l := by
 have := allM_map (f := decA) (k := e40) (r := fun s => s) l fun s _ => decA_e s
 rw [List.map_id'] at this
 exact this
theorem is12 : Is Proofs.Tryd.prog 12 := ⟨Proofs.Tryd.f12, Proofs.Tryd.func12, by kernel_rfl, by kernel_rfl⟩
def sortA : List D → List AObj → Option (D × List AObj) := sortFnF 5 13 decA e40 (srtC cmpA)
theorem sort12 : DOk False Proofs.Tryd.prog 12 sortA :=
 sortFn_sound is12 cmpA cmp13 toA.swo (fun _ _ h => decA_spec h) (by decide) (fun a => ⟨_, rfl, rfl, rfl⟩)
  (fun enc' cf' blk off cap d w hk h1 hO hc hH hb hs => AnyQ.slices_SortFunc Tryd.laysSF 5 (fun w => by kernel_rfl) (fun w => by kernel_rfl) enc' hk h1 cf' hO 13 #[] blk off cap d w (enters_of Proofs.Tryd.func13 (by kernel_rfl) rfl) hc hH hb hs)
  (fun p cap fv w => AnyF.slices_SortFunc_none Tryd.laysSF p cap fv w) (srtC_is toA)
def srt12 (xs : List S40) : Option (List S40) := if xs.length < 4611686018427387904 then some (srtC cmpA xs) else none
theorem srtA_length (l : List S40) : (srtC cmpA l).length = l.length := (srtC_perm l).length_eq
theorem row_sort12 (h : List AObj) (q : Nat) (xs zs : List S40) (hx : srt12 xs = some zs) (hq : h[q]? = some (rowO 5 (xs.map e40))) : sortA [rowF .nil q (xs.map e40), .v (.fn 13)] h = some (U, h.set q (rowO 5 (zs.map e40))) := by
 unfold srt12 at hx
 split at hx <;> try (cases hx; done)
 rename_i hbig
 cases hx
 cases xs with
 | nil =>
  have : srtC cmpA [] = [] := List.eq_nil_of_length_eq_zero (by rw [srtA_length]; rfl)
  rw [this]
  simp only [List.map_nil, rowF, rowO, sortA, sortFnF] at hq ⊢
  rw [set_same hq]; rfl
 | cons x r =>
  have h1 : rowF .nil q ((x :: r).map e40) = .osl q 0 ((x :: r).map e40).length false := rfl
  have h2 : rowO 5 ((x :: r).map e40) = .row 5 ((x :: r).map e40) := rfl
  rw [h2] at hq
  rw [h1]
  simp only [sortA, sortFnF, hq]
  rw [if_pos ⟨trivial, trivial, trivial, by simp, by rw [List.length_map]; exact hbig⟩, allM_decA, Option.map_some]
  have h3 : rowO 5 ((srtC cmpA (x :: r)).map e40) = .row 5 ((srtC cmpA (x :: r)).map e40) := by
   cases hs : srtC cmpA (x :: r) with
   | nil => have := srtA_length (x :: r); rw [hs] at this; simp at this
   | cons a b => rfl
  rw [h3]
theorem srt12_row {xs zs : List S40} (q : Nat) (hx : srt12 xs = some zs) : rowF .nil q (xs.map e40) = rowF .nil q (zs.map e40) := by
 unfold srt12 at hx
 split at hx <;> try (cases hx; done)
 cases hx
 have hl := srtA_length xs
 cases xs with
 | nil => have : srtC cmpA [] = [] := List.eq_nil_of_length_eq_zero hl; rw [this]
 | cons x r =>
  cases hs : srtC cmpA (x :: r) with
  | nil => rw [hs] at hl; simp at hl
  | cons a b =>
   rw [hs] at hl
   simp only [List.length_cons] at hl
   simp only [List.map_cons, rowF, List.length_cons, List.length_map, hl]
end Go.Abs
