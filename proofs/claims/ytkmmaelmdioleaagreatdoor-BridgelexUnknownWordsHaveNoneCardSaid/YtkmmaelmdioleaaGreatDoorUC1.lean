import Derived.Test.YtkmmaelmdioleaaGreatDoorAbsHC
import Derived.Test.YtkmmaelmdioleaaGreatDoorAbsM
import Derived.Test.YtkmmaelmdioleaaGreatDoorEV0
import Derived.KernelRfl
namespace Go.Abs
open Go.Proofs
set_option linter.unusedVariables false
set_option linter.unusedSimpArgs false
set_option linter.unnecessarySimpa false
set_option maxRecDepth 100000
namespace Uv
def clD (n : Nat) : List V → D
 | [] => .v (.sl .full [])
 | x :: r => .osl n 0 (x :: r).length false
def clO : List V → AObj
 | [] => .dead
 | x :: r => .row 1 (x :: r)
def clnR : List D → List AObj → Option (D × List AObj)
 | [.v (.sl fl xs)], h => if xs.length * 8 ≤ 140737488355328 ∧ xs.length ≤ maxLen ∧ headOk 1 xs = true then some (clD h.length xs, h ++ [clO xs]) else none
 | _, _ => none
namespace Cln
def E : Env := { T := TW, pureF := fun _ => false, keep := fun _ => ⟨fun _ => [], fun _ => [], fun _ => []⟩, acc := fun _ => [], rowF := fun _ => false, rowM := true, ora := fun _ => none, oraD := fun _ => none }
def X : Cx := ⟨E, fun _ _ _ => none, ⟨fun _ => [], fun _ => [], fun _ => []⟩, [], 0⟩
theorem hx : Hx False Tryz.prog X := ⟨by kernel_rfl, TW_ok, fun f ds h d h' hh => nomatch hh⟩
theorem is114 : Is Tryz.prog 114 := ⟨Tryz.f114, Tryz.func114, by kernel_rfl, by kernel_rfl⟩
theorem app0 (h : List AObj) : appendD TW true 97 h (.v (.sl .nonfull [])) (.v (.sl .non [])) = some (.v (.sl .nonfull []), h ++ [.dead]) := rfl
theorem app1 (h : List AObj) (x : V) (r : List V) (hb : (x :: r).length * 8 ≤ 140737488355328) (hl : (x :: r).length ≤ maxLen) (hk : headOk 1 (x :: r) = true) : appendD TW true 97 h (.v (.sl .nonfull [])) (.v (.sl .non (x :: r))) = some (.osl h.length 0 (x :: r).length false, h ++ [.row 1 (x :: r)]) := by
 have hT : TW 97 = some tw97 := rfl
 have hT2 : TW 3 = some tw3 := rfl
 have hkd : tw97.kind = .slice 3 := rfl
 unfold appendD
 simp only [hT, hkd, hT2]
 rw [if_neg (by decide)]
 have he : elemsOf tw3.size h (D.unt (.v (.sl .non (x :: r)))) = some (x :: r) := by
  show (if headOk 1 (x :: r) = true then _ else _) = _
  rw [if_pos hk]
 rw [he]
 have h8 : tw3.bytes = 8 := rfl
 have h1 : tw3.size = 1 := rfl
 show (if _ then _ else none) = _
 rw [if_pos (by
  simp only [Bool.and_eq_true, decide_eq_true_eq, h8, List.length_nil, Nat.zero_add]
  exact ⟨⟨⟨rfl, rfl⟩, hb⟩, hl⟩)]
 simp [h1]
theorem callT_z {xs : List V} {h : List AObj} (hb : xs.length * 8 ≤ 140737488355328) (hl : xs.length ≤ maxLen) (hk : headOk 1 xs = true) : CallT False Tryz.prog 114 [.v (.sl .non xs)] h fun d h' => (d = .v (.sl .nonfull []) ∧ xs = [] ∨ d = .osl h.length 0 xs.length false ∧ xs ≠ []) ∧ h' = h ++ [clO xs] := by
 have hr : resOf Tryz.prog 114 = [.tmp 2] := by kernel_rfl
 have fin : ∀ (σ : St) (d : D), σ.tmps.getD 2 .undef = d → resultsD TW σ (resOf Tryz.prog 114) = some d := fun σ d h4 => by
  rw [hr]; simp only [resultsD, allM, resultD, h4]
 cases xs with
 | nil =>
  refine callT_of_ht (c := bodyOf Tryz.prog 114) (T := TW) Tryz.func114 (by kernel_rfl) TW_ok ?_
  refine Ht.seq (by kernel_rfl) ?_
  refine Ht.region hx (by kernel_rfl) ?_
  refine Ops.seg' 1 1 (by kernel_rfl) ?_
  refine Ops.done (by kernel_rfl) ?_
  refine seqH.n ?_
  refine Ht.seq (by kernel_rfl) ?_
  refine Ht.seq (by kernel_rfl) ?_
  refine Ht.region hx (by kernel_rfl) ?_
  refine Ops.seg' 2 2 (by kernel_rfl) ?_
  refine Ops.done (by kernel_rfl) ?_
  refine seqH.n ?_
  refine Ht.cond false (by kernel_rfl) (by kernel_rfl) (fun hc => nomatch hc) (fun _ => ?_)
  refine Ht.skip (by kernel_rfl) ?_
  refine seqH.n ?_
  refine Ht.seq (by kernel_rfl) ?_
  refine Ht.region hx (by kernel_rfl) ?_
  refine Ops.seg' 2 2 (by kernel_rfl) ?_
  refine Ops.one' 3 (fun h0 e0 => app0 h0) (by kernel_rfl) (by kernel_rfl) ?_
  refine Ops.seg' 1 4 (by kernel_rfl) ?_
  refine Ops.done (by kernel_rfl) ?_
  refine seqH.n ?_
  refine Ht.ret (by kernel_rfl) ?_
  exact ⟨.inr rfl, _, fin _ (.v (.sl .nonfull [])) (by kernel_rfl), .inl ⟨rfl, rfl⟩, by kernel_rfl⟩
 | cons x r =>
  refine callT_of_ht (c := bodyOf Tryz.prog 114) (T := TW) Tryz.func114 (by kernel_rfl) TW_ok ?_
  refine Ht.seq (by kernel_rfl) ?_
  refine Ht.region hx (by kernel_rfl) ?_
  refine Ops.seg' 1 1 (by kernel_rfl) ?_
  refine Ops.done (by kernel_rfl) ?_
  refine seqH.n ?_
  refine Ht.seq (by kernel_rfl) ?_
  refine Ht.seq (by kernel_rfl) ?_
  refine Ht.region hx (by kernel_rfl) ?_
  refine Ops.seg' 2 2 (by kernel_rfl) ?_
  refine Ops.done (by kernel_rfl) ?_
  refine seqH.n ?_
  refine Ht.cond false (by kernel_rfl) (by kernel_rfl) (fun hc => nomatch hc) (fun _ => ?_)
  refine Ht.skip (by kernel_rfl) ?_
  refine seqH.n ?_
  refine Ht.seq (by kernel_rfl) ?_
  refine Ht.region hx (by kernel_rfl) ?_
  refine Ops.seg' 2 2 (by kernel_rfl) ?_
  refine Ops.one' 3 (fun h0 e0 => app1 h0 x r hb hl hk) (by kernel_rfl) (by kernel_rfl) ?_
  refine Ops.seg' 1 4 (by kernel_rfl) ?_
  refine Ops.done (by kernel_rfl) ?_
  refine seqH.n ?_
  refine Ht.ret (by kernel_rfl) ?_
  exact ⟨.inr rfl, _, fin _ (.osl h.length 0 (x :: r).length false) (by kernel_rfl), .inr ⟨rfl, List.cons_ne_nil _ _⟩, by kernel_rfl⟩
theorem callT_n {h : List AObj} : CallT False Tryz.prog 114 [.v (.sl .nil [])] h fun d h' => d = .v (.sl .nil []) ∧ h' = h := by
 have hr : resOf Tryz.prog 114 = [.tmp 2] := by kernel_rfl
 have fin : ∀ (σ : St) (d : D), σ.tmps.getD 2 .undef = d → resultsD TW σ (resOf Tryz.prog 114) = some d := fun σ d h4 => by
  rw [hr]; simp only [resultsD, allM, resultD, h4]
 refine callT_of_ht (c := bodyOf Tryz.prog 114) (T := TW) Tryz.func114 (by kernel_rfl) TW_ok ?_
 refine Ht.seq (by kernel_rfl) ?_
 refine Ht.region hx (by kernel_rfl) ?_
 refine Ops.seg' 1 1 (by kernel_rfl) ?_
 refine Ops.done (by kernel_rfl) ?_
 refine seqH.n ?_
 refine Ht.seq (by kernel_rfl) ?_
 refine Ht.seq (by kernel_rfl) ?_
 refine Ht.region hx (by kernel_rfl) ?_
 refine Ops.seg' 2 2 (by kernel_rfl) ?_
 refine Ops.done (by kernel_rfl) ?_
 refine seqH.n ?_
 refine Ht.cond true (by kernel_rfl) (by kernel_rfl) (fun _ => ?_) (fun hc => nomatch hc)
 refine Ht.seq (by kernel_rfl) ?_
 refine Ht.region hx (by kernel_rfl) ?_
 refine Ops.seg' 1 1 (by kernel_rfl) ?_
 refine Ops.done (by kernel_rfl) ?_
 refine seqH.n ?_
 refine Ht.ret (by kernel_rfl) ?_
 exact ⟨.inr rfl, .v (.sl .nil []), fin _ _ (by kernel_rfl), rfl, rfl⟩
end Cln
theorem rel_full {S : Nat → Nat → Prop} {β : Blocks} {w : World} {v : Value} {fl : SFlag} (hf : fl.isFull = true) (h : RelD S β w v (.v (.sl fl []))) : RelD S β w v (.v (.sl .full [])) := by
 have h := h.of_v
 refine .v _ _ ?_
 cases h with
 | slnil _ hn => exact .slnil _ (by decide)
 | slemp _ a cap h1 h2 h3 => exact .slemp _ a cap (by decide) (fun _ => h2 hf) h3
 | sl _ b off cap k n _ vals hn h1 h2 h3 h4 hk hs hr => exact .sl _ b off cap k n _ vals hn (by decide) (fun _ => h2 hf) h3 h4 hk hs hr
theorem orad114 : DOk False Tryz.prog 114 clnR := by
 refine ⟨Cln.is114, fun ds h d h' hd => ?_⟩
 unfold clnR at hd
 split at hd
 case h_2 => cases hd
 rename_i fl xs
 split at hd
 case isFalse => cases hd
 rename_i hc
 obtain ⟨hb, hl, hk⟩ := hc
 obtain ⟨rfl, rfl⟩ := Prod.mk.inj (Option.some.inj hd)
 intro S β w vs hr hi
 obtain ⟨v, rfl, hv⟩ := one_arg hr
 have hv := hv.of_v
 have non : RelV S w v (.sl .non xs) → Calls Tryz.prog 114 #[v] w fun e w' => ∃ v S' β', e = .returned v ∧ Ext False S β w S' β' w' ∧ HInv S' β' w' (h ++ [clO xs]) ∧ RelD S' β' w' v (clD h.length xs) := by
  intro hv'
  refine (Cln.callT_z hb hl hk S β w #[v] ⟨rfl, fun i u d h1 h2 => ?_⟩ hi).mono ?_
  ·match i with
   | 0 => cases h1; cases h2; exact .v _ _ hv'
   | i + 1 => cases h2
  ·rintro e w' ⟨d, h', v', S', β', ⟨hd, rfl⟩, h2, h3, h4, h5⟩
   refine ⟨v', S', β', h2, h3, h4, ?_⟩
   rcases hd with ⟨rfl, rfl⟩ | ⟨rfl, hne⟩
   ·exact rel_full rfl h5
   ·cases xs with
    | nil => exact absurd rfl hne
    | cons x r => exact h5
 cases hv with
 | slnil _ hn =>
  refine (Cln.callT_n (h := h) S β w #[.slice none 0 0] ⟨rfl, fun i u d h1 h2 => ?_⟩ hi).mono ?_
  ·match i with
   | 0 => cases h1; cases h2; exact .v _ _ (.slnil _ (by decide))
   | i + 1 => cases h2
  ·rintro e w' ⟨d, h', v', S', β', ⟨rfl, rfl⟩, h2, h3, h4, h5⟩
   obtain ⟨e1, e2⟩ := h4.pad (DR := False)
   have h5 := h5.of_v
   refine ⟨v', S', _, h2, h3.trans e1, e2, .v _ _ ?_⟩
   cases h5 with
   | slnil _ hn => exact .slnil _ (by decide)
   | slemp _ a cap h1 h2 h3 => exact .slemp _ a cap (by decide) (fun _ => h2 rfl) h3
   | sl _ b off cap k n _ vals hn h1 h2 h3 h4 hk hs hr => exact .sl _ b off cap k n _ vals hn (by decide) (fun _ => h2 rfl) h3 h4 hk hs hr
 | slemp _ a cap h1 h2 h3 => exact non (.slemp _ a cap (by decide) (fun h => nomatch h) h3)
 | sl _ b off cap k n _ vals hn h1 h2 h3 h4 hk' hs hr => exact non (.sl _ b off cap k n _ vals hn (by decide) (fun h => nomatch h) h3 h4 hk' hs hr)
end Uv
namespace Uv
def clnL : List D → List AObj → Option (D × List AObj)
 | [.v (.sl fl [])], h => some (.v (.sl .full []), h ++ [.dead])
 | _, _ => none
namespace Cll
theorem is41 : Is Tryz.prog 41 := ⟨Tryz.f41, Tryz.func41, by kernel_rfl, by kernel_rfl⟩
theorem app0 (h : List AObj) : appendD TW true 60 h (.v (.sl .nonfull [])) (.v (.sl .non [])) = some (.v (.sl .nonfull []), h ++ [.dead]) := rfl
theorem callT_z {h : List AObj} : CallT False Tryz.prog 41 [.v (.sl .non [])] h fun d h' => d = .v (.sl .nonfull []) ∧ h' = h ++ [.dead] := by
 have hr : resOf Tryz.prog 41 = [.tmp 2] := by kernel_rfl
 have fin : ∀ (σ : St) (d : D), σ.tmps.getD 2 .undef = d → resultsD TW σ (resOf Tryz.prog 41) = some d := fun σ d h4 => by
  rw [hr]; simp only [resultsD, allM, resultD, h4]
 refine callT_of_ht (c := bodyOf Tryz.prog 41) (T := TW) Tryz.func41 (by kernel_rfl) TW_ok ?_
 refine Ht.seq (by kernel_rfl) ?_
 refine Ht.region Cln.hx (by kernel_rfl) ?_
 refine Ops.seg' 1 1 (by kernel_rfl) ?_
 refine Ops.done (by kernel_rfl) ?_
 refine seqH.n ?_
 refine Ht.seq (by kernel_rfl) ?_
 refine Ht.seq (by kernel_rfl) ?_
 refine Ht.region Cln.hx (by kernel_rfl) ?_
 refine Ops.seg' 2 2 (by kernel_rfl) ?_
 refine Ops.done (by kernel_rfl) ?_
 refine seqH.n ?_
 refine Ht.cond false (by kernel_rfl) (by kernel_rfl) (fun hc => nomatch hc) (fun _ => ?_)
 refine Ht.skip (by kernel_rfl) ?_
 refine seqH.n ?_
 refine Ht.seq (by kernel_rfl) ?_
 refine Ht.region Cln.hx (by kernel_rfl) ?_
 refine Ops.seg' 2 2 (by kernel_rfl) ?_
 refine Ops.one' 3 (fun h0 e0 => app0 h0) (by kernel_rfl) (by kernel_rfl) ?_
 refine Ops.seg' 1 4 (by kernel_rfl) ?_
 refine Ops.done (by kernel_rfl) ?_
 refine seqH.n ?_
 refine Ht.ret (by kernel_rfl) ?_
 exact ⟨.inr rfl, _, fin _ (.v (.sl .nonfull [])) (by kernel_rfl), rfl, by kernel_rfl⟩
theorem callT_n {h : List AObj} : CallT False Tryz.prog 41 [.v (.sl .nil [])] h fun d h' => d = .v (.sl .nil []) ∧ h' = h := by
 have hr : resOf Tryz.prog 41 = [.tmp 2] := by kernel_rfl
 have fin : ∀ (σ : St) (d : D), σ.tmps.getD 2 .undef = d → resultsD TW σ (resOf Tryz.prog 41) = some d := fun σ d h4 => by
  rw [hr]; simp only [resultsD, allM, resultD, h4]
 refine callT_of_ht (c := bodyOf Tryz.prog 41) (T := TW) Tryz.func41 (by kernel_rfl) TW_ok ?_
 refine Ht.seq (by kernel_rfl) ?_
 refine Ht.region Cln.hx (by kernel_rfl) ?_
 refine Ops.seg' 1 1 (by kernel_rfl) ?_
 refine Ops.done (by kernel_rfl) ?_
 refine seqH.n ?_
 refine Ht.seq (by kernel_rfl) ?_
 refine Ht.seq (by kernel_rfl) ?_
 refine Ht.region Cln.hx (by kernel_rfl) ?_
 refine Ops.seg' 2 2 (by kernel_rfl) ?_
 refine Ops.done (by kernel_rfl) ?_
 refine seqH.n ?_
 refine Ht.cond true (by kernel_rfl) (by kernel_rfl) (fun _ => ?_) (fun hc => nomatch hc)
 refine Ht.seq (by kernel_rfl) ?_
 refine Ht.region Cln.hx (by kernel_rfl) ?_
 refine Ops.seg' 1 1 (by kernel_rfl) ?_
 refine Ops.done (by kernel_rfl) ?_
 refine seqH.n ?_
 refine Ht.ret (by kernel_rfl) ?_
 exact ⟨.inr rfl, .v (.sl .nil []), fin _ _ (by kernel_rfl), rfl, rfl⟩
end Cll
theorem orad41 : DOk False Tryz.prog 41 clnL := by
 refine ⟨Cll.is41, fun ds h d h' hd => ?_⟩
 unfold clnL at hd
 split at hd
 case h_2 => cases hd
 rename_i fl
 obtain ⟨rfl, rfl⟩ := Prod.mk.inj (Option.some.inj hd)
 intro S β w vs hr hi
 obtain ⟨v, rfl, hv⟩ := one_arg hr
 have hv := hv.of_v
 have non : RelV S w v (.sl .non []) → Calls Tryz.prog 41 #[v] w fun e w' => ∃ v S' β', e = .returned v ∧ Ext False S β w S' β' w' ∧ HInv S' β' w' (h ++ [.dead]) ∧ RelD S' β' w' v (.v (.sl .full [])) := by
  intro hv'
  refine (Cll.callT_z S β w #[v] ⟨rfl, fun i u d h1 h2 => ?_⟩ hi).mono ?_
  ·match i with
   | 0 => cases h1; cases h2; exact .v _ _ hv'
   | i + 1 => cases h2
  ·rintro e w' ⟨d, h', v', S', β', ⟨rfl, rfl⟩, h2, h3, h4, h5⟩
   exact ⟨v', S', β', h2, h3, h4, rel_full rfl h5⟩
 cases hv with
 | slnil _ hn =>
  refine (Cll.callT_n (h := h) S β w #[.slice none 0 0] ⟨rfl, fun i u d h1 h2 => ?_⟩ hi).mono ?_
  ·match i with
   | 0 => cases h1; cases h2; exact .v _ _ (.slnil _ (by decide))
   | i + 1 => cases h2
  ·rintro e w' ⟨d, h', v', S', β', ⟨rfl, rfl⟩, h2, h3, h4, h5⟩
   obtain ⟨e1, e2⟩ := h4.pad (DR := False)
   have h5 := h5.of_v
   refine ⟨v', S', _, h2, h3.trans e1, e2, .v _ _ ?_⟩
   cases h5 with
   | slnil _ hn => exact .slnil _ (by decide)
   | slemp _ a cap h1 h2 h3 => exact .slemp _ a cap (by decide) (fun _ => h2 rfl) h3
   | sl _ b off cap k n _ vals hn h1 h2 h3 h4 hk hs hr => exact .sl _ b off cap k n _ vals hn (by decide) (fun _ => h2 rfl) h3 h4 hk hs hr
 | slemp _ a cap h1 h2 h3 => exact non (.slemp _ a cap (by decide) (fun h => nomatch h) h3)
 | sl _ b off cap k n _ vals hn h1 h2 h3 h4 hk' hs hr => exact non (.sl _ b off cap k n _ vals hn (by decide) (fun h => nomatch h) h3 h4 hk' hs hr)
end Uv
end Go.Abs
