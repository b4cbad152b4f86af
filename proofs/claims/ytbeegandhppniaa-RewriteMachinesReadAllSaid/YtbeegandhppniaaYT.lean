import Derived.Test.YtbeegandhppniaaWF1c
import Derived.Test.YtbeegandhppniaaAbsTO
import Derived.Test.YtbeegandhppniaaAbsRw
import Derived.Test.YtbeegandhppniaaAbsHC
import Derived.Test.YtbeegandhppniaaShelf
import Derived.Shelf.SlSortCmp.NoneTotal
import Derived.Test.YtbeegandhppniaaSL
namespace Go.Abs
open Go.Sort Go.Proofs
set_option linter.unusedVariables false
set_option linter.unusedSimpArgs false
set_option linter.unnecessarySimpa false
set_option maxRecDepth 100000
def keyA (x : S53) : Int × Int × Int × Int × Int := (x.fFrom, x.fIn, x.fOut, x.fTo, x.fWeight)
def cmpA (x y : S53) : Int := prodC cmpI (prodC cmpI (prodC cmpI (prodC cmpI cmpI))) (keyA x) (keyA y)
theorem toA : TO cmpA := (toI.prod (toI.prod (toI.prod (toI.prod toI)))).comap keyA fun x y h => by
 cases x; cases y
 simp only [keyA, Prod.mk.injEq] at h
 obtain ⟨rfl, rfl, rfl, rfl, rfl⟩ := h
 rfl
theorem cmpA_orr (x y : S53) : cmpA x y = orr [cmpI x.fFrom y.fFrom, cmpI x.fIn y.fIn, cmpI x.fOut y.fOut, cmpI x.fTo y.fTo, cmpI x.fWeight y.fWeight] := by
 simp only [cmpA, keyA, prodC, lexC, orr]
 repeat' split
 all_goals first | rfl | omega | (simp_all; done)
theorem f50_eq (m : Nat) (x y : Int) : f50 m x y = some (cmpI x y) := by
 have h : ∀ z : Int, f66 m z = some false := fun z => by unfold f66; simp
 unfold f50 cmpI
 simp only [h, bnd, cnd]
 by_cases h1 : x < y
 ·simp [h1]
 ·by_cases h2 : x > y <;> simp [h1, h2]
theorem f49_eq (m : Nat) (l : List Int) (hl : l.length < m) (hb : l.length ≤ 9223372036854775807) : f49 m l = some (orr l) := by
 have e : iter (fun (y : Int) => f49_B1 m l y) m 0 = landed (fun (_ : Unit) (i : Int) => i) l.length (scan (fun _ (_ : Unit) (x : Int) => if x ≠ 0 then some (.inl x) else some (.inr ())) 0 () l) := by
  refine iter_scan l (fun (y : Int) => f49_B1 m l y) (fun (_ : Unit) (i : Int) => i) _ (fun u i hi => ?_) m 0 () (by omega) (by omega)
  unfold f49_B1
  refine body_turn rfl fun x hx => ?_
  have hil := lt_of_getElem? hx
  have hw : w64 ((i : Int) + 1) = (i : Int) + 1 := w64_id ⟨by omega, by omega⟩
  by_cases h : x = 0
  ·simp [h, hw]
  ·have : (x != 0) = true := by simpa using h
   simp [h, this]
 unfold f49
 rw [e, scan_orr]
 by_cases h : orr l = 0
 ·simp [h, landed]
 ·simp [h, landed]
theorem f36_eq (m : Nat) (x y : S53) (hm : 6 ≤ m) : f36 m x y = some (cmpA x y) := by
 unfold f36
 rw [f50_eq, bnd_some', f50_eq, bnd_some', f50_eq, bnd_some', f50_eq, bnd_some', f50_eq, bnd_some', f49_eq m _ (by simp; omega) (by simp), bnd_some', cmpA_orr]
theorem cmp36 : CmpOk Proofs.Try.prog 36 e53 cmpA := by
 intro x y S w us hrel hs hg
 obtain ⟨d, h', h1, h2⟩ := ok36c 6 x y (cmpA x y) (f36_eq _ x y (by omega)) 20 (by omega)
 refine ((pureCalls (good0 (DR := True)) (xs := [e53 x, e53 y]) h1 h2).2 S w us hrel hs hg).mono ?_
 rintro e w' ⟨v, S', rfl, hE, _, hR⟩
 cases hR
 exact ⟨rfl, S', hE⟩
def decA : V → Option S53
 | .agg [.int .i64 a, .int .i64 b, .int .i64 c, .int .i64 d, .int .i64 e] => some ⟨a, b, c, d, e⟩
 | _ => none
theorem decA_spec {v : V} {a : S53} (h : decA v = some a) : v = e53 a := by
 unfold decA at h
 split at h
 ·cases h; rfl
 ·cases h
theorem decA_e (a : S53) : decA (e53 a) = some a := rfl
theorem allM_decA (l : List S53) : allM decA (l.map e53) = some l := by
 have := allM_map (f := decA) (k := e53) (r := fun s => s) l fun s _ => decA_e s
 rw [List.map_id'] at this
 exact this
theorem is35 : Is Proofs.Try.prog 35 := ⟨Proofs.Try.f35, Proofs.Try.func35, by kernel_rfl, by kernel_rfl⟩
def sortA : List D → List AObj → Option (D × List AObj) := sortFnF 5 36 decA e53 (srtC cmpA)
theorem sort35 : DOk False Proofs.Try.prog 35 sortA :=
 sortFn_sound is35 cmpA cmp36 toA.swo (fun _ _ h => decA_spec h) (by decide) (fun a => ⟨_, rfl, rfl, rfl⟩)
  (fun enc' cf' blk off cap d w hk h1 hO hc hH hb hs => AnyQ.slices_SortFunc Try.laysSA 5 (fun w => by kernel_rfl) (fun w => by kernel_rfl) enc' hk h1 cf' hO 36 #[] blk off cap d w (enters_of Proofs.Try.func36 (by kernel_rfl) rfl) hc hH hb hs)
  (fun p cap fv w => AnyF.slices_SortFunc_none Try.laysSA p cap fv w) (srtC_is toA)
def srt35 (xs : List S53) : Option (List S53) := if xs.length < 4611686018427387904 then some (srtC cmpA xs) else none
theorem srtA_length (l : List S53) : (srtC cmpA l).length = l.length := (srtC_perm l).length_eq
theorem row_sort35 (h : List AObj) (q : Nat) (xs zs : List S53) (hx : srt35 xs = some zs) (hq : h[q]? = some (rowO 5 (xs.map e53))) : sortA [rowF .nil q (xs.map e53), .v (.fn 36)] h = some (U, h.set q (rowO 5 (zs.map e53))) := by
 unfold srt35 at hx
 split at hx <;> try (cases hx; done)
 rename_i hbig
 cases hx
 cases xs with
 | nil =>
  have : srtC cmpA [] = [] := List.eq_nil_of_length_eq_zero (by rw [srtA_length]; rfl)
  rw [this]
  simp only [List.map_nil, rowF, rowO, sortA, sortFnF] at hq ⊢
  rw [set_same hq]; rfl
 | cons x r =>
  have h1 : rowF .nil q ((x :: r).map e53) = .osl q 0 ((x :: r).map e53).length false := rfl
  have h2 : rowO 5 ((x :: r).map e53) = .row 5 ((x :: r).map e53) := rfl
  rw [h2] at hq
  rw [h1]
  simp only [sortA, sortFnF, hq]
  rw [if_pos ⟨trivial, trivial, trivial, by simp, by rw [List.length_map]; exact hbig⟩, allM_decA, Option.map_some]
  have h3 : rowO 5 ((srtC cmpA (x :: r)).map e53) = .row 5 ((srtC cmpA (x :: r)).map e53) := by
   cases hs : srtC cmpA (x :: r) with
   | nil => have := srtA_length (x :: r); rw [hs] at this; simp at this
   | cons a b => rfl
  rw [h3]
abbrev FS : Type := Fin 4294967296
def encS (s : FS) : V := e58 ⟨(s.val : Int), 0⟩
def cfS (x y : FS) : Int := (x.val : Int) - (y.val : Int)
theorem toS : TO cfS := ⟨fun x y => ⟨fun h => Fin.ext (by unfold cfS at h; omega), fun h => by subst h; unfold cfS; omega⟩, fun x y => by unfold cfS; omega, fun x y z => by unfold cfS; omega⟩
theorem f38_eq (m : Nat) (x y : FS) : f38 m ⟨(x.val : Int), 0⟩ ⟨(y.val : Int), 0⟩ = some (cfS x y) := by
 unfold f38 cfS
 have := x.isLt
 have := y.isLt
 rw [w64_id ⟨by show _ ≤ (x.val : Int) - (y.val : Int); omega, by show (x.val : Int) - (y.val : Int) ≤ _; omega⟩]
theorem cmp38 : CmpOk Proofs.Try.prog 38 encS cfS := by
 intro x y S w us hrel hs hg
 obtain ⟨d, h', h1, h2⟩ := ok38c 6 ⟨(x.val : Int), 0⟩ ⟨(y.val : Int), 0⟩ (cfS x y) (f38_eq _ x y) 20 (by omega)
 refine ((pureCalls (good0 (DR := True)) (xs := [encS x, encS y]) h1 h2).2 S w us hrel hs hg).mono ?_
 rintro e w' ⟨v, S', rfl, hE, _, hR⟩
 cases hR
 exact ⟨rfl, S', hE⟩
def decS : V → Option FS
 | .agg [.int .i64 a, .int .i64 0] => if h : 0 ≤ a ∧ a < 4294967296 then some ⟨a.toNat, by omega⟩ else none
 | _ => none
theorem decS_spec {v : V} {a : FS} (h : decS v = some a) : v = encS a := by
 unfold decS at h
 split at h
 ·split at h
  ·rename_i hc
   cases h
   unfold encS e58
   simp only [Int.toNat_of_nonneg hc.1]
  ·cases h
 ·cases h
theorem decS_e (a : FS) : decS (encS a) = some a := by
 have := a.isLt
 simp only [decS, encS, e58, vI]
 rw [dif_pos ⟨by omega, by omega⟩]
 exact congrArg some (Fin.ext (by simp))
theorem allM_decS (l : List FS) : allM decS (l.map encS) = some l := by
 have := allM_map (f := decS) (k := encS) (r := fun s => s) l fun s _ => decS_e s
 rw [List.map_id'] at this
 exact this
theorem is37 : Is Proofs.Try.prog 37 := ⟨Proofs.Try.f37, Proofs.Try.func37, by kernel_rfl, by kernel_rfl⟩
def sortF58 : List D → List AObj → Option (D × List AObj) := sortFnF 2 38 decS encS (srtC cfS)
theorem sort37 : DOk False Proofs.Try.prog 37 sortF58 :=
 sortFn_sound is37 cfS cmp38 toS.swo (fun _ _ h => decS_spec h) (by decide) (fun a => ⟨_, rfl, rfl, rfl⟩)
  (fun enc' cf' blk off cap d w hk h1 hO hc hH hb hs => AnyQ.slices_SortFunc Try.laysSB 2 (fun w => by kernel_rfl) (fun w => by kernel_rfl) enc' hk h1 cf' hO 38 #[] blk off cap d w (enters_of Proofs.Try.func38 (by kernel_rfl) rfl) hc hH hb hs)
  (fun p cap fv w => AnyF.slices_SortFunc_none Try.laysSB p cap fv w) (srtC_is toS)
theorem srtS_length (l : List FS) : (srtC cfS l).length = l.length := (srtC_perm l).length_eq
end Go.Abs
