import Derived.Test.YtgmbaemdedachaaTC
import Derived.Test.YtgmbaemdedachaaAbsRw
namespace Go.Abs.Td
open Go.Sort Go.Proofs Go.Abs.Ta Go.Abs.Tb Go.Abs.Tc
set_option linter.unusedVariables false
set_option linter.unusedSimpArgs false
set_option linter.unnecessarySimpa false
set_option maxRecDepth 100000
set_option maxHeartbeats 4000000
noncomputable abbrev A52 : Code := cR (cR C52)
abbrev K1 : List Nat := [1, 2, 5, 6]
abbrev S1 (N : Nat) (ls : List Int) (G : List AObj) : St := Sm 64 [(1, lC ls), (2, .ptr 0 0), (5, sI 1 N), (6, sI 2 N)] G
abbrev KI : List Nat := [1, 2, 5, 6, 19, 20]
abbrev Si (N : Nat) (ls : List Int) (i : Int) (G : List AObj) : St := Sm 64 [(1, lC ls), (2, .ptr 0 0), (5, sI 1 N), (6, sI 2 N), (19, dI N), (20, dI i)] G
structure J1 (m0 : AObj) (N L i : Nat) (G : List AObj) : Prop where
 g0 : G[0]? = some m0
 g1 : G[1]? = some (.cells (tC 3 N L i))
 g2 : G[2]? = some (oB (List.replicate N false))
 rows : ∀ j, j < i → G[3 + j]? = some (oI (List.replicate L (-1)))
 len : G.length = 3 + i
def I1 (m0 : AObj) (N : Nat) (ls : List Int) : Nat → St → Prop := fun K σ => ∃ (i : Nat) (G : List AObj), i + K = N ∧ J1 m0 N ls.length i G ∧ Abs.forget KI σ = Si N ls i G
variable {G : List AObj} {N : Nat} {Q : Post} {ls : List Int}
theorem rows52 (n : Nat) {m0 : AObj} (hN : N ≤ 20000) (hL : ls.length ≤ 300) (hJ : J1 m0 N ls.length 0 G)
  (hQ : ∀ G σ, G[0]? = some m0 → Tb G 1 3 ls.length (List.replicate N (List.replicate ls.length (-1))) → G[2]? = some (oB (List.replicate N false)) → Abs.forget K1 σ = S1 N ls G → Q .normal σ) :
  HT (cL A52) (S1 N ls G) Q := by
 have hxn := hxM n
 refine Hs <| Hr hxn <| Og 1 <| Oo (fun h0 e0 => (show (lenD TM 65 (D.unt (sI 1 N))).map (·, h0) = some (dI N, h0) from rfl)) <| Og 1 <| On <| Hb 0 <| Ht.loop (I1 m0 N ls) N kr ⟨0, G, om, hJ, kr⟩ ?_
 clear hJ
 rintro K σ ⟨i, G, hK, hJ, hσ⟩
 refine Hg KI hσ ?_
 clear hσ
 refine Hs <| Hr hxn <| Og 1 <| On <| Hs <| Hd ((i : Int) < (N : Int)) (fun hc => ?_) (fun hc => ?_)
 case refine_2 =>
  have hi : i = N := by omega
  subst hi
  refine Ht.exit (id := 0) kr ?_
  show blkH 0 Q (AExit.exit 0) _
  refine blkH.x (hQ G _ hJ.g0 ⟨?_, fun j r hj => ?_⟩ hJ.g2 kr)
  ·rw [zV]; exact hJ.g1
  ·rw [zU] at hj
   split at hj
   ·cases hj
    exact ⟨by simp, hJ.rows j om⟩
   ·cases hj
 have hlt : i < N := by omega
 refine Hk <| seqH.n <| Hs <| Hb 1 <| Hs <| Hr hxn <| Og 2 <| On ?_
 have hxi := hxI false n is53 (call53 (x := -1) hL G)
 have hnew : (G ++ [oI (List.replicate ls.length (-1))])[1]? = some (.cells (tC 3 N ls.length i)) := app_keep hJ.g1
 refine Hr hxi <| Og 4 <| Oo (fun h0 e0 => lr h0 62 3 eI ls) <| Oo (fun h0 e0 => callI (row := false) (n := n) (f0 := 53) (ds0 := [.v (.sl .nonfull [vI (-1)]), dI ls.length]) (ds := [.v (.sl .nonfull [vI (-1)]), dI ls.length]) (h0 := G) (h := h0) (d0 := .osl G.length 0 ls.length false) (h1 := G ++ [oI (List.replicate ls.length (-1))]) rfl (e0.trans kr)) <| Oo (fun h0 e0 => ixO (i := i) (Hw (g := G ++ [oI (List.replicate ls.length (-1))]) e0 hnew) rfl hlt) <| Oo (fun h0 e0 => stO (cs := tC 3 N ls.length i) (r := G.length) (N := ls.length) (Hw (g := G ++ [oI (List.replicate ls.length (-1))]) e0 hnew) (by rw [tC_len]; exact hlt)) <| Od <| blkH.n <| seqH.n <| Hf KI (Si N ls i ((G ++ [oI (List.replicate ls.length (-1))]).set 1 (.cells ((tC 3 N ls.length i).set i (sI G.length ls.length))))) <| Hr hxn <| Og 2 <| Od <| ⟨K - 1, om, i + 1, (G ++ [oI (List.replicate ls.length (-1))]).set 1 (.cells ((tC 3 N ls.length i).set i (sI G.length ls.length))), om, ?_, ?_⟩
 ·refine ⟨set_keep om (app_keep hJ.g0), ?_, set_keep om (app_keep hJ.g2), fun j hj => ?_, ?_⟩
  ·rw [hJ.len, tC_set _ _ _ _ hlt]
   exact set_new hnew
  ·refine set_keep om ?_
   by_cases h : j < i
   ·exact app_keep (hJ.rows j h)
   ·have : j = i := by omega
    subst this
    rw [← hJ.len]
    exact mid_get _ _ _
  ·rw [zP, List.length_append, hJ.len]
   simp
   omega
 ·rw [← w64_nat om]
  kernel_rfl
noncomputable abbrev E52 : Code := cR A52
abbrev KA : List Nat := [1, 2, 5, 6, 32, 33, 34]
abbrev Sa (N : Nat) (ls : List Int) (A : List S52) (i : Int) (G : List AObj) : St := Sm 64 [(1, lC ls), (2, .ptr 0 0), (5, sI 1 N), (6, sI 2 N), (32, dP e52 A), (33, dI A.length), (34, dI i)] G
abbrev cX (x : S52) : AObj := .cells [dI x.fFr, dI x.fTo, dI x.fIn, dI x.fOut, dI x.fWt]
abbrev c5 : AObj := .cells [dI 0, dI 0, dI 0, dI 0, dI 0]
structure J2 (N L : Nat) (A : List S52) (F : List S54) (R : List (List Int)) (B : List Bool) (G : List AObj) : Prop where
 g0 : G[0]? = some (mC N A F)
 t : Tb G 1 3 L R
 hR : R.length = N
 g2 : G[2]? = some (oB B)
 hB : B.length = N
 len : 3 + N ≤ G.length
theorem J2.app {N L A F R B G} (h : J2 N L A F R B G) (l : List AObj) : J2 N L A F R B (G ++ l) := ⟨app_keep h.g0, h.t.app l, h.hR, app_keep h.g2, h.hB, by rw [List.length_append]; have := h.len; omega⟩
variable {A : List S52} {B : List Bool} {F : List S54} {R : List (List Int)}
theorem arcs52 (n : Nat) {goal : List (List Int)} (hL : ls.length ≤ 300) (hA : A.length < 100000000) (hg : arcsIn ls.length A R = some goal) (hJ : J2 N ls.length A F R B G)
  (hQ : ∀ G σ, J2 N ls.length A F goal B G → Abs.forget K1 σ = S1 N ls G → Q .normal σ) :
  HT (cL E52) (S1 N ls G) Q := by
 have hxn := hxM n
 refine Hs <| Hr hxn <| Og 1 <| Oo (fun h0 e0 => lq ti25 0 1 [dI N, dP e52 A, dP e54 F] (dP e52 A) (Hw e0 hJ.g0)) <| Oo (fun h0 e0 => lr h0 25 53 e52 A) <| Og 1 <| On <| Hb 2 <| Ht.loop (fun K σ => ∃ (i : Nat) (R : List (List Int)) (G : List AObj), i + K = A.length ∧ arcsIn ls.length (A.drop i) R = some goal ∧ J2 N ls.length A F R B G ∧ Abs.forget KA σ = Sa N ls A i G) A.length kr ⟨0, R, G, om, hg, hJ, kr⟩ ?_
 clear hJ hg
 rintro K σ ⟨i, R, G, hK, hg, hJ, hσ⟩
 refine Hg KA hσ ?_
 clear hσ
 refine Hs <| Hr hxn <| Og 1 <| On <| Hs <| Hd ((i : Int) < (A.length : Int)) (fun hc => ?_) (fun hc => ?_)
 case refine_2 =>
  have hi : i = A.length := by omega
  rw [hi, List.drop_length] at hg
  cases hg
  refine Ht.exit (id := 2) kr ?_
  show blkH 2 Q (AExit.exit 2) _
  exact blkH.x (hQ G _ hJ kr)
 have hlt : i < A.length := by omega
 rw [zI hlt] at hg
 have hx : A[i]? = some A[i] := zA hlt
 generalize A[i] = x at hg hx
 have hg : (match arcIn ls.length R x with
  | none => none
  | some R' => arcsIn ls.length (A.drop (i + 1)) R') = some goal := hg
 obtain ⟨R', hR'⟩ : ∃ y, arcIn ls.length R x = some y := by
  cases h : arcIn ls.length R x with
  | none => rw [h] at hg; cases hg
  | some y => exact ⟨y, rfl⟩
 rw [hR'] at hg
 have hg : arcsIn ls.length (A.drop (i + 1)) R' = some goal := hg
 unfold arcIn at hR'
 obtain ⟨r, hr⟩ : ∃ y, idx R x.fFr = some y := by
  cases h : idx R x.fFr with
  | none => rw [h] at hR'; cases hR'
  | some y => exact ⟨y, rfl⟩
 rw [hr] at hR'
 have hR' : (if 0 ≤ x.fIn - 1 ∧ (x.fIn - 1).toNat < ls.length then some (R.set x.fFr.toNat (r.set (x.fIn - 1).toNat x.fTo)) else none) = some R' := hR'
 split at hR'
 case isFalse => cases hR'
 rename_i hin
 have hRe := zC hR'
 clear hR'
 subst hRe
 obtain ⟨h0f, hrf, hlf⟩ := idx_some hr
 obtain ⟨fr, hfr⟩ : ∃ z : Nat, x.fFr = (z : Int) := ⟨x.fFr.toNat, om⟩
 obtain ⟨jn, hjn⟩ : ∃ z : Nat, x.fIn - 1 = (z : Int) := ⟨(x.fIn - 1).toNat, om⟩
 have e1 : x.fFr.toNat = fr := by omega
 have e2 : (x.fIn - 1).toNat = jn := by omega
 rw [e1] at hrf hlf hg
 rw [e2] at hin hg
 have hw : w64 (x.fIn - 1) = (jn : Int) := by
  rw [hjn, w64_id ⟨om, om⟩]
 refine Hk <| seqH.n <| Hs <| Hb 3 ?_
 have ix : idx A (i : Int) = some x := by rw [idx_get]; exact hx
 refine Hs <| Hr hxn <| Oo (fun h0 e0 => xr h0 25 53 5 e52 A i x ix) <| Og 2 <| Oo (fun h0 e0 => sq ti53 G.length 0 [dI 0, dI 0, dI 0, dI 0, dI 0] [dI x.fFr, dI x.fTo, dI x.fIn, dI x.fOut, dI x.fWt] (.v (e52 x)) (Hw (g := G ++ [c5]) e0 (mid_get G _ _))) <| On <| Ht.forget (9 :: KA) (Ht.st (σ' := Sm 64 [(1, lC ls), (2, .ptr 0 0), (5, sI 1 N), (6, sI 2 N), (9, .ptr G.length 0), (32, dP e52 A), (33, dI A.length), (34, dI i)] (G ++ [cX x])) (by rw [← mid_set G c5]; kernel_rfl) ?_)
 have hK2 : J2 N ls.length A F R B (G ++ [cX x]) := hJ.app _
 have hp : (G ++ [cX x])[G.length]? = some (cX x) := mid_get _ _ _
 generalize G ++ [cX x] = M at hK2 hp ⊢
 generalize G.length = p at hp ⊢
 obtain ⟨hrl, hrow⟩ := hK2.t.row fr r hrf
 refine Hr hxn <| Og 2 <| Oo (fun h0 e0 => lq ti3 p 0 [dI x.fFr, dI x.fTo, dI x.fIn, dI x.fOut, dI x.fWt] (dI x.fFr) (Hw e0 hp)) <| Oo (fun h0 e0 => ixO (N := N) (i := fr) (Hw e0 hK2.t.out) hfr (by rw [← hK2.hR]; exact hlf)) <| Oo (fun h0 e0 => ldO (d := sI (3 + fr) ls.length) (Hw e0 hK2.t.out) (tC_get _ _ _ hlf)) <| Og 1 <| Oo (fun h0 e0 => lq ti3 p 2 [dI x.fFr, dI x.fTo, dI x.fIn, dI x.fOut, dI x.fWt] (dI x.fIn) (Hw e0 hp)) <| Og 2 <| Oo (fun h0 e0 => lq ti3 p 1 [dI x.fFr, dI x.fTo, dI x.fIn, dI x.fOut, dI x.fWt] (dI x.fTo) (Hw e0 hp)) <| Oo (fun h0 e0 => ixI (i := jn) (Hw e0 hrow) hw hin.2) <| Oo (fun h0 e0 => stI (x := x.fTo) (Hw e0 hrow) (by rw [hrl]; exact hin.2)) <| Od <| blkH.n <| seqH.n <| Hf KA (Sa N ls A i (M.set (3 + fr) (oI (r.set jn x.fTo)))) <| Hr hxn <| Og 2 <| Od <| ⟨K - 1, om, i + 1, R.set fr (r.set jn x.fTo), M.set (3 + fr) (oI (r.set jn x.fTo)), om, hg, ?_, ?_⟩
 ·refine ⟨set_keep om hK2.g0, hK2.t.set om hrf, by rw [zP]; exact hK2.hR, set_keep om hK2.g2, hK2.hB, by rw [zP]; exact hK2.len⟩
 ·rw [← w64_nat om]
  kernel_rfl
noncomputable abbrev D52 : Code := cR E52
abbrev KF : List Nat := [1, 2, 5, 6, 51, 52, 53]
abbrev Sf (N : Nat) (ls : List Int) (F : List S54) (i : Int) (G : List AObj) : St := Sm 64 [(1, lC ls), (2, .ptr 0 0), (5, sI 1 N), (6, sI 2 N), (51, dP e54 F), (52, dI F.length), (53, dI i)] G
abbrev cF (x : S54) : AObj := .cells [dI x.fSe, dI x.fWt]
abbrev c2 : AObj := .cells [dI 0, dI 0]
theorem fins52 (n : Nat) {goal : List Bool} (hF : F.length < 100000000) (hg : finsIn F B = some goal) (hJ : J2 N ls.length A F R B G)
  (hQ : ∀ G σ, J2 N ls.length A F R goal G → Abs.forget K1 σ = S1 N ls G → Q .normal σ) :
  HT (cL D52) (S1 N ls G) Q := by
 have hxn := hxM n
 refine Hs <| Hr hxn <| Og 1 <| Oo (fun h0 e0 => lq ti26 0 2 [dI N, dP e52 A, dP e54 F] (dP e54 F) (Hw e0 hJ.g0)) <| Oo (fun h0 e0 => lr h0 26 55 e54 F) <| Og 1 <| On <| Hb 4 <| Ht.loop (fun K σ => ∃ (i : Nat) (B : List Bool) (G : List AObj), i + K = F.length ∧ finsIn (F.drop i) B = some goal ∧ J2 N ls.length A F R B G ∧ Abs.forget KF σ = Sf N ls F i G) F.length kr ⟨0, B, G, om, hg, hJ, kr⟩ ?_
 clear hJ hg
 rintro K σ ⟨i, B, G, hK, hg, hJ, hσ⟩
 refine Hg KF hσ ?_
 clear hσ
 refine Hs <| Hr hxn <| Og 1 <| On <| Hs <| Hd ((i : Int) < (F.length : Int)) (fun hc => ?_) (fun hc => ?_)
 case refine_2 =>
  have hi : i = F.length := by omega
  rw [hi, List.drop_length] at hg
  cases hg
  refine Ht.exit (id := 4) kr ?_
  show blkH 4 Q (AExit.exit 4) _
  exact blkH.x (hQ G _ hJ kr)
 have hlt : i < F.length := by omega
 rw [zI hlt] at hg
 have hx : F[i]? = some F[i] := zA hlt
 generalize F[i] = x at hg hx
 have hg : (match upd B x.fSe true with
  | none => none
  | some F' => finsIn (F.drop (i + 1)) F') = some goal := hg
 obtain ⟨B', hB'⟩ : ∃ y, upd B x.fSe true = some y := by
  cases h : upd B x.fSe true with
  | none => rw [h] at hg; cases hg
  | some y => exact ⟨y, rfl⟩
 rw [hB'] at hg
 have hg : finsIn (F.drop (i + 1)) B' = some goal := hg
 obtain ⟨u1, u2, rfl⟩ := upd_some hB'
 obtain ⟨st, hst⟩ : ∃ z : Nat, x.fSe = (z : Int) := ⟨x.fSe.toNat, om⟩
 have e1 : x.fSe.toNat = st := by omega
 rw [e1] at u2 hg
 refine Hk <| seqH.n <| Hs <| Hb 5 ?_
 have ix : idx F (i : Int) = some x := by rw [idx_get]; exact hx
 refine Hs <| Hr hxn <| Oo (fun h0 e0 => xr h0 26 55 2 e54 F i x ix) <| Og 2 <| Oo (fun h0 e0 => sq ti55 G.length 0 [dI 0, dI 0] [dI x.fSe, dI x.fWt] (.v (e54 x)) (Hw (g := G ++ [c2]) e0 (mid_get G _ _))) <| On <| Ht.forget (11 :: KF) (Ht.st (σ' := Sm 64 [(1, lC ls), (2, .ptr 0 0), (5, sI 1 N), (6, sI 2 N), (11, .ptr G.length 0), (51, dP e54 F), (52, dI F.length), (53, dI i)] (G ++ [cF x])) (by rw [← mid_set G c2]; kernel_rfl) ?_)
 have hK2 : J2 N ls.length A F R B (G ++ [cF x]) := hJ.app _
 have hp : (G ++ [cF x])[G.length]? = some (cF x) := mid_get _ _ _
 generalize G ++ [cF x] = M at hK2 hp ⊢
 generalize G.length = p at hp ⊢
 refine Hr hxn <| Og 2 <| Oo (fun h0 e0 => lq ti3 p 0 [dI x.fSe, dI x.fWt] (dI x.fSe) (Hw e0 hp)) <| Oo (fun h0 e0 => ixB (N := N) (i := st) (Hw e0 hK2.g2) hst (by rw [← hK2.hB]; exact u2)) <| Oo (fun h0 e0 => stB (x := true) (Hw e0 hK2.g2) u2) <| Od <| blkH.n <| seqH.n <| Hf KF (Sf N ls F i (M.set 2 (oB (B.set st true)))) <| Hr hxn <| Og 2 <| Od <| ⟨K - 1, om, i + 1, B.set st true, M.set 2 (oB (B.set st true)), om, hg, ?_, ?_⟩
 ·exact ⟨set_keep om hK2.g0, hK2.t.keep om (.inl om), hK2.hR, set_new hK2.g2, by rw [zP]; exact hK2.hB, by rw [zP]; exact hK2.len⟩
 ·rw [← w64_nat om]
  kernel_rfl
theorem frz_bools {h : List AObj} {q : Nat} {l : List Bool} (hq : h[q]? = some (oB l)) (n : Nat) : Abs.frz h (n + 1) (sI q l.length) = some (eL eB l) := by
 have := frz_row (n := n) hq
 rw [List.length_map] at this
 exact this
theorem wk52 (n : Nat) (m : S27) (ls : List Int) (o : List (List Int) × List Bool) (h : f52 m ls = some o) :
  HT (bodyOf Try.prog 52) (startIn Try.prog 52 [.v (e27 m), lC ls] []) (fun e σ => (e = .normal ∨ e = .ret) ∧ ∃ d, resultsD TM σ (resOf Try.prog 52) = some d ∧ Abs.frz σ.heap 6 d = some (.tuple [eL (eL eI) o.1, eL eB o.2])) := by
 have hxn := hxM n
 unfold f52 at h
 split at h
 case isFalse => cases h
 rename_i hb
 obtain ⟨b1, b2, b3, b4, b5⟩ := hb
 obtain ⟨st, A, F⟩ := m
 dsimp only at b1 b2 b3 b4 b5 h
 obtain ⟨N, rfl⟩ : ∃ z : Nat, st = (z : Int) := ⟨st.toNat, om⟩
 rw [zN] at h
 have hN : N ≤ 20000 := by omega
 obtain ⟨R, hR⟩ : ∃ y, arcsIn ls.length A (List.replicate N (List.replicate ls.length (-1))) = some y := by
  cases h' : arcsIn ls.length A (List.replicate N (List.replicate ls.length (-1))) with
  | none => rw [h'] at h; cases h
  | some y => exact ⟨y, rfl⟩
 rw [hR] at h
 dsimp only at h
 obtain ⟨B, hB⟩ : ∃ y, finsIn F (List.replicate N false) = some y := by
  cases h' : finsIn F (List.replicate N false) with
  | none => rw [h'] at h; cases h
  | some y => exact ⟨y, rfl⟩
 rw [hB] at h
 cases h
 show HT C52 _ _
 refine Hs <| Hr hxn <| Og 3 <| On <| Hs <| Hf [1, 2] (Sm 64 [(1, lC ls), (2, .ptr 0 0)] [mC N A F]) <| make52 n hN fun σ hσ => ?_
 refine seqH.n <| Hg [1, 2, 5, 6] hσ <| Hs <| rows52 n hN b3 (m0 := mC N A F) ⟨rfl, by rw [← tC_zero]; rfl, rfl, fun j hj => by omega, rfl⟩ fun G σ g0 ht g2 hσ => ?_
 refine seqH.n <| Hg K1 hσ <| Hs ?_
 have hlen : 3 + N ≤ G.length := by
  cases hN0 : N with
  | zero => have := yE g2; omega
  | succ z =>
   have := (ht.row z (List.replicate ls.length (-1)) (by rw [hN0, zU, if_pos om])).2
   have := yE this
   omega
 refine arcs52 n b3 b4 hR (F := F) (B := List.replicate N false) ⟨g0, ht, by simp, g2, by simp, hlen⟩ fun G σ hJ hσ => ?_
 refine seqH.n <| Hg K1 hσ <| Hs <| fins52 n b5 hB hJ fun G σ hJ hσ => ?_
 refine seqH.n <| Hg K1 hσ <| Hs <| Hr hxn <| Og 4 <| On <| Ht.ret kr ?_
 have hr : resOf Try.prog 52 = [.tmp 3, .tmp 4] := by kernel_rfl
 refine ⟨.inr rfl, .tuple [sI 1 N, sI 2 N], ?_, ?_⟩
 ·rw [hr]
  kernel_rfl
 ·have f1 := hJ.t.frz (n := 3)
  rw [hJ.hR] at f1
  have f2 := frz_bools hJ.g2 4
  rw [hJ.hB] at f2
  have key : ∀ (h : List AObj), h = G → Abs.frz h 6 (.tuple [sI 1 N, sI 2 N]) = some (.tuple [eL (eL eI) R, eL eB B]) := fun h e => by
   subst e
   show (allM (Abs.frz h 5) [sI 1 N, sI 2 N]).map V.tuple = _
   simp only [allM, f1, f2]
   rfl
  exact key _ kr
theorem is52 : Is Try.prog 52 := ⟨Try.f52, Try.func52, kr, kr⟩
theorem call52 (m : S27) (ls : List Int) (o : List (List Int) × List Bool) (h : f52 m ls = some o) : CallT False Try.prog 52 [.v (e27 m), lC ls] [] fun d h' => d = .v (.tuple [eL (eL eI) o.1, eL eB o.2]) ∧ h' = [] :=
 callN (c := bodyOf Try.prog 52) Try.func52 kr TM_ok (wk52 0 m ls o h)
end Go.Abs.Td
namespace Go.Abs.Te
open Go.Sort Go.Proofs Go.Abs.Ta Go.Abs.Tb Go.Abs.Tc
set_option linter.unusedVariables false
set_option maxRecDepth 100000
set_option maxHeartbeats 4000000
def kfind (s : ByteArray) : List ByteArray → Nat → Option Nat
 | [], _ => none
 | x :: r, i => if s.toList == x.toList then some i else kfind s r (i + 1)
theorem keyS (s : ByteArray) : keyOk TM 9 (eS s) = true := by kernel_rfl
theorem keyFindS (s : ByteArray) : ∀ (l : List ByteArray) (i : Nat), keyFind TM 9 (eS s) (l.map eS) i = some (kfind s l i)
 | [], i => rfl
 | x :: r, i => by
  show (match eqV TM 8 9 (eS s) (eS x) with
   | some true => if keyTwin (eS s) (eS x) then some (some i) else none
   | some false => keyFind TM 9 (eS s) (r.map eS) (i + 1)
   | none => none) = _
  have he : eqV TM 8 9 (eS s) (eS x) = some (s.toList == x.toList) := by kernel_rfl
  rw [he]
  unfold kfind
  cases h : s.toList == x.toList with
  | true => rfl
  | false => exact keyFindS s r (i + 1)
theorem kfind_lt {s : ByteArray} : ∀ {l : List ByteArray} {i j : Nat}, kfind s l i = some j → i ≤ j ∧ j < i + l.length
 | [], i, j, h => by cases h
 | x :: r, i, j, h => by
  unfold kfind at h
  split at h
  ·cases h; simp
  ·obtain ⟨h1, h2⟩ := kfind_lt h
   simp only [List.length_cons]
   omega
abbrev oM (K : List ByteArray) : AObj := .map (K.map eS) (ixs K.length)
variable {K : List ByteArray} {h : List AObj} {r : Nat} {s : ByteArray}
theorem lkS0 (hr : h[r]? = some (oM K)) (hf : kfind s K 0 = none) : (lookupD TM h 87 (.map r) (.v (eS s)) true).map (·, h) = some (.v (.tuple [vI 0, .bool false]), h) := by
 have h1 : TM 87 = some ti87 := rfl
 have h2 : TM 3 = some ti3 := rfl
 have hk := keyFindS s K 0
 rw [hf] at hk
 simp only [lookupD, h1, show ti87.kind = .map 9 3 from rfl, h2, keyS, if_true, mapKV, hr, hk]
 rfl
variable {j : Nat}
theorem lkS1 (hr : h[r]? = some (oM K)) (hf : kfind s K 0 = some j) : (lookupD TM h 87 (.map r) (.v (eS s)) true).map (·, h) = some (.v (.tuple [vI j, .bool true]), h) := by
 have h1 : TM 87 = some ti87 := rfl
 have h2 : TM 3 = some ti3 := rfl
 have hk := keyFindS s K 0
 rw [hf] at hk
 have hj : j < K.length := by have := kfind_lt hf; omega
 simp only [lookupD, h1, show ti87.kind = .map 9 3 from rfl, h2, keyS, if_true, mapKV, hr, hk, ixs_get hj]
 rfl
theorem lkS2 (hr : h[r]? = some (oM K)) (hf : kfind s K 0 = some j) : (lookupD TM h 87 (.map r) (.v (eS s)) false).map (·, h) = some (dI j, h) := by
 have h1 : TM 87 = some ti87 := rfl
 have h2 : TM 3 = some ti3 := rfl
 have hk := keyFindS s K 0
 rw [hf] at hk
 have hj : j < K.length := by have := kfind_lt hf; omega
 simp only [lookupD, h1, show ti87.kind = .map 9 3 from rfl, h2, keyS, if_true, mapKV, hr, hk, ixs_get hj]
 rfl
theorem muS (hr : h[r]? = some (oM K)) (hf : kfind s K 0 = none) : (mapSetD TM h 87 (.map r) (.v (eS s)) (dI K.length)).map (U, ·) = some (U, h.set r (oM (K ++ [s]))) := by
 have h1 : TM 87 = some ti87 := rfl
 have hk := keyFindS s K 0
 rw [hf] at hk
 simp only [mapSetD, h1, show ti87.kind = .map 9 3 from rfl, keyS, if_true, hr, hk, Option.map_some]
 show _ = some (U, h.set r (AObj.map ((K ++ [s]).map eS) (ixs (K ++ [s]).length)))
 rw [List.map_append, List.length_append, List.length_singleton, ixs_succ]
 rfl
theorem lenM (hr : h[r]? = some (oM K)) : (lenMapD h (.map r)).map (·, h) = some (dI K.length, h) := by
 simp only [lenMapD, hr, List.length_map, Option.map_some]
theorem kfind_app {s : ByteArray} : ∀ {l : List ByteArray} {i : Nat}, kfind s l i = none → kfind s (l ++ [s]) i = some (i + l.length)
 | [], i, h => by
  unfold kfind
  simp
 | x :: r, i, h => by
  unfold kfind at h
  split at h
  ·cases h
  ·rename_i hx
   rw [List.cons_append]
   unfold kfind
   rw [if_neg hx, kfind_app h]
   simp only [List.length_cons]
   congr 1
   omega
abbrev e8 : Int → V := eK .u8
abbrev oU (l : List Int) : AObj := .row 1 (l.map e8)
noncomputable def XB (n : Nat) : Cx := ⟨{ E with T := TM, rowM := true, dynP := true, bldTy := fun t => t == 110 }, run Try.prog E n, K0, [], n⟩
theorem hxB (n : Nat) : Hx False Try.prog (XB n) := ⟨good.mixed, TM_ok, run_sound good n⟩
def w8 (x : Int) : Int := IntKind.wrap .u8 x
def b3 (c : Int) : List Int := [w8 (c.fdiv (2 ^ 16)), w8 (c.fdiv (2 ^ 8)), w8 c]
variable {q : Nat}
theorem apU {xs ys : List Int} (hq : h[q]? = some (oU xs)) (hr : h[r]? = some (oU ys)) (hl : xs.length + ys.length ≤ 100000000) :
  appendD TM true 110 h (.osl q 0 xs.length false) (.osl r 0 ys.length false) = some (.osl h.length 0 (xs ++ ys).length false, h.set q .dead ++ [oU (xs ++ ys)]) := by
 have := pil_app (T := TM) h 110 5 q r ti5 e8 xs ys (xs ++ ys) (by
  unfold app
  rw [if_pos ⟨by show (xs.length + ys.length) * 1 ≤ _; omega, by unfold maxLen; omega⟩]) kr kr kr kr hq hr
 simpa [pilD, oU, show ti5.size = 1 from rfl] using this
variable {b : List Int} {i : Nat}
theorem ixU {N : Nat} (hq : h[q]? = some (oU b)) (hi : i < N) : (indexAddrH TM h 110 (D.unt (sI q N)) (dI i)).map (·, h) = some (.eptr q i 0, h) := by
 have hn : natOf (dI (i : Int)) = some i := by simp [natOf]
 have h1 : TM 110 = some ti110 := rfl
 simp only [D.unt, indexAddrH, h1, show ti110.kind = .slice 5 from rfl, hn, if_pos hi, show sizeT TM 5 = some 1 from rfl, hq, if_true, Option.map_some, Nat.zero_add]
theorem stU {x : Int} (hq : h[r]? = some (oU b)) (hi : i < b.length) : (storeD ti5 h (.eptr r i 0) (.v (e8 x))).map (U, ·) = some (U, h.set r (oU (b.set i x))) := by
 have hx' : (b.map e8)[i]? = some (e8 b[i]) := by rw [zG, zA hi]; rfl
 have h1 : ((D.v (e8 x)).solid && (D.v (e8 x)).cells.length == ti5.size) = true := rfl
 have h2 : storeV (e8 b[i]) (e8 x) 0 = some (e8 x) := rfl
 have h3 : ((e8 x).cells.length == 1 && (e8 x).solid) = true := rfl
 simp only [storeD, h1, if_true, hq, hx', h2, h3, Option.map_some, oU, List.map_set]
def clsOf (cl : List Int) (to : Int) : Option Int := if 0 ≤ to then idx cl to else some (-1)
def rowKey (cl : List Int) : List Int → List Int → Option (List Int)
 | [], acc => some acc
 | to :: r, acc => match clsOf cl to with
  | none => none
  | some c => rowKey cl r (acc ++ b3 c)
def keyOfS (cl : List Int) (s : Nat) (fin : Bool) (row : List Int) : Option ByteArray := match cl[s]? with
 | none => none
 | some c => (rowKey cl row (b3 c ++ [if fin then 1 else 0])).map strI
def addK (K : List ByteArray) (s : ByteArray) : List ByteArray := match kfind s K 0 with
 | some _ => K
 | none => K ++ [s]
def numK (K : List ByteArray) (s : ByteArray) : Nat := (kfind s K 0).getD K.length
def ren (cl : List Int) (fin : List Bool) : List (List Int) → Nat → List ByteArray → List Int → Option (List ByteArray × List Int)
 | [], _, K, R => some (K, R)
 | row :: rest, s, K, R => match fin[s]? with
  | none => none
  | some f => match keyOfS cl s f row with
   | none => none
   | some k => if K.length < 100000000 then ren cl fin rest (s + 1) (addK K k) (R.set s (numK K k : Nat)) else none
def refn (next : List (List Int)) (fin : List Bool) : Nat → List Int → Nat → Option (List Int × Int)
 | 0, _, _ => none
 | n + 1, cl, count => match ren cl fin next 0 [] (List.replicate next.length 0) with
  | none => none
  | some (K, R) => if K.length = count then some (R, (count : Int)) else refn next fin n R K.length
def f66 (m : Nat) (next : List (List Int)) (fin : List Bool) : Option (List Int × Int) :=
 if next.length ≤ 20000 ∧ (next.all fun r => decide (r.length ≤ 20000)) = true then refn next fin m (List.replicate next.length 0) 0 else none
end Go.Abs.Te
namespace Go.Abs.Tf
open Go.Sort Go.Proofs Go.Abs.Ta Go.Abs.Tb Go.Abs.Tc Go.Abs.Te
set_option linter.unusedVariables false
set_option maxRecDepth 100000
set_option maxHeartbeats 4000000
structure RInv (cl : List Int) (K : List ByteArray) (R : List Int) (N qc rm qr B : Nat) (G : List AObj) : Prop where
 c : G[qc]? = some (oI cl)
 m : G[rm]? = some (oM K)
 r : G[qr]? = some (oI R)
 lc : cl.length = N
 lr : R.length = N
 ne : qc ≠ qr
 b1 : qc < B
 b2 : rm < B
 b3 : qr < B
 b4 : B ≤ G.length
section
variable {cl : List Int} {K : List ByteArray} {R : List Int} {N qc rm qr B : Nat} {G : List AObj}
theorem RInv.app (h : RInv cl K R N qc rm qr B G) (l : List AObj) : RInv cl K R N qc rm qr B (G ++ l) := ⟨app_keep h.c, app_keep h.m, app_keep h.r, h.lc, h.lr, h.ne, h.b1, h.b2, h.b3, by rw [List.length_append]; have := h.b4; omega⟩
theorem RInv.set (h : RInv cl K R N qc rm qr B G) {p : Nat} (hp : B ≤ p) (x : AObj) : RInv cl K R N qc rm qr B (G.set p x) :=
 ⟨set_keep (by have := h.b1; omega) h.c, set_keep (by have := h.b2; omega) h.m, set_keep (by have := h.b3; omega) h.r, h.lc, h.lr, h.ne, h.b1, h.b2, h.b3, by rw [zP]; exact h.b4⟩
theorem RInv.cm (h : RInv cl K R N qc rm qr B G) : rm ≠ qc := fun e => by
 have h1 := h.m
 rw [e, h.c] at h1
 cases h1
theorem RInv.rm' (h : RInv cl K R N qc rm qr B G) : rm ≠ qr := fun e => by
 have h1 := h.m
 rw [e, h.r] at h1
 cases h1
theorem RInv.map (h : RInv cl K R N qc rm qr B G) (K' : List ByteArray) : RInv cl K' R N qc rm qr B (G.set rm (oM K')) :=
 ⟨set_keep h.cm h.c, set_new h.m, set_keep h.rm' h.r, h.lc, h.lr, h.ne, h.b1, h.b2, h.b3, by rw [zP]; exact h.b4⟩
theorem RInv.ren (h : RInv cl K R N qc rm qr B G) (j : Nat) (x : Int) : RInv cl K (R.set j x) N qc rm qr B (G.set qr (oI (R.set j x))) :=
 ⟨set_keep (Ne.symm h.ne) h.c, set_keep (Ne.symm h.rm') h.m, set_new h.r, h.lc, by rw [zP]; exact h.lr, h.ne, h.b1, h.b2, h.b3, by rw [zP]; exact h.b4⟩
end
noncomputable def C66 : Code := bodyOf Try.prog 66
noncomputable abbrev LP66 : Code := cL (cR (cR (cR C66)))
noncomputable abbrev BD66 : Code := cL (cL LP66)
noncomputable abbrev IN66 : Code := cL (cR (cR BD66))
noncomputable abbrev IL66 : Code := cL (cR IN66)
noncomputable abbrev B66 : Code := cL (cL (cR (cR (cL IL66))))
abbrev lI (qc rm qr N : Nat) (next : List (List Int)) (fin : List Bool) (cnt s : Int) : List (Nat × D) := [(0, dP (eL eI) next), (1, dP eB fin), (6, sI qc N), (7, dI cnt), (8, .map rm), (9, sI qr N), (26, dP (eL eI) next), (27, dI next.length), (28, dI s)]
abbrev KI : List Nat := [0, 1, 6, 7, 8, 9, 26, 27, 28]
noncomputable abbrev KC66 : Code := cR (cR (cR B66))
variable {Q : Post} {cnt : Int} {fin : List Bool} {next : List (List Int)} {row : List Int}
theorem keys66 (n : Nat) {cl : List Int} {K : List ByteArray} {R : List Int} {N qc rm qr B p : Nat} {s : Int} {acc goal : List Int} (hrow : row.length ≤ 20000) (hacc : acc.length ≤ 100)
  (hg : rowKey cl row acc = some goal) {G : List AObj} (hI : RInv cl K R N qc rm qr B G) (hp : B ≤ p) (hq : G[p]? = some (oU acc))
  (hQ : ∀ p G σ, RInv cl K R N qc rm qr B G → B ≤ p → G[p]? = some (oU goal) → Abs.forget (10 :: 12 :: KI) σ = Sm 111 ((10, dI s) :: (12, sI p goal.length) :: lI qc rm qr N next fin cnt s) G → Q .normal σ) :
  HT (cL KC66) (Sm 111 ((10, dI s) :: (11, dP eI row) :: (12, sI p acc.length) :: lI qc rm qr N next fin cnt s) G) Q := by
 have hxn := hxM n
 have hxb := hxB n
 refine Hs <| Hr hxn <| Og 1 <| Oo (fun h0 e0 => lr h0 62 3 eI row) <| Og 1 <| On <| Hb 4 <| Ht.loop (fun k σ => ∃ (j p : Nat) (acc : List Int) (G : List AObj), j + k = row.length ∧ acc.length ≤ 100 + 3 * j ∧ rowKey cl (row.drop j) acc = some goal ∧ RInv cl K R N qc rm qr B G ∧ B ≤ p ∧ G[p]? = some (oU acc) ∧
  Abs.forget (10 :: 12 :: 57 :: 58 :: 59 :: KI) σ = Sm 111 ((10, dI s) :: (12, sI p acc.length) :: (57, dP eI row) :: (58, dI row.length) :: (59, dI j) :: lI qc rm qr N next fin cnt s) G) row.length kr
  ⟨0, p, acc, G, om, om, hg, hI, hp, hq, kr⟩ ?_
 clear hI hp hq hg hacc
 rintro k σ ⟨j, p, acc, G, hk, hal, hg, hI, hp, hq, hσ⟩
 refine Hg (10 :: 12 :: 57 :: 58 :: 59 :: KI) hσ ?_
 clear hσ
 refine Hs <| Hr hxn <| Og 1 <| On <| Hs <| Hd ((j : Int) < (row.length : Int)) (fun hc => ?_) (fun hc => ?_)
 case refine_2 =>
  have hj : j = row.length := by omega
  rw [hj, List.drop_length] at hg
  cases hg
  refine Ht.exit (id := 4) kr ?_
  show blkH 4 Q (AExit.exit 4) _
  exact blkH.x (hQ p G _ hI hp hq kr)
 have hlt : j < row.length := by omega
 rw [zI hlt] at hg
 have hx : row[j]? = some row[j] := zA hlt
 generalize row[j] = to at hg hx
 have hg : (match clsOf cl to with
  | none => none
  | some c => rowKey cl (row.drop (j + 1)) (acc ++ b3 c)) = some goal := hg
 obtain ⟨c, hcl⟩ : ∃ y, clsOf cl to = some y := by
  cases h : clsOf cl to with
  | none => rw [h] at hg; cases hg
  | some y => exact ⟨y, rfl⟩
 rw [hcl] at hg
 have hg : rowKey cl (row.drop (j + 1)) (acc ++ b3 c) = some goal := hg
 refine Hk <| seqH.n <| Hs <| Hb 5 ?_
 have ix : idx row (j : Int) = some to := by rw [idx_get]; exact hx
 refine Hs <| Hr hxn <| Oo (fun h0 e0 => xr h0 62 3 1 eI row j to ix) <| Og 2 <| On <| Hs <| Hr hxn <| Og 1 <| On ?_
 have last : ∀ σ, Abs.forget (10 :: 12 :: 15 :: 57 :: 58 :: 59 :: KI) σ = Sm 111 ((10, dI s) :: (12, sI p acc.length) :: (15, dI c) :: (57, dP eI row) :: (58, dI row.length) :: (59, dI j) :: lI qc rm qr N next fin cnt s) G →
   HT (cR (cR (cR (cL (cL (cR (cR (cL (cL (cR (cL KC66))))))))))) σ (blkH 5 (SH (cR (cR (cR (cL (cL (cR (cL KC66))))))) (lpH (fun k σ => ∃ (j p : Nat) (acc : List Int) (G : List AObj), j + k = row.length ∧ acc.length ≤ 100 + 3 * j ∧ rowKey cl (row.drop j) acc = some goal ∧ RInv cl K R N qc rm qr B G ∧ B ≤ p ∧ G[p]? = some (oU acc) ∧
  Abs.forget (10 :: 12 :: 57 :: 58 :: 59 :: KI) σ = Sm 111 ((10, dI s) :: (12, sI p acc.length) :: (57, dP eI row) :: (58, dI row.length) :: (59, dI j) :: lI qc rm qr N next fin cnt s) G) k (blkH 4 Q)))) := by
  intro σ hσ
  refine Hg (10 :: 12 :: 15 :: 57 :: 58 :: 59 :: KI) hσ <| Hr hxb <| Og 10 <| Oo (fun h0 e0 => apU (q := p) (r := G.length) (xs := acc) (ys := b3 c) (Hw (g := G ++ [oU (b3 c)]) e0 (app_keep hq)) (Hw (g := G ++ [oU (b3 c)]) e0 (mid_get G _ _)) (by simp [b3]; omega)) <| Og 1 <| Od <| blkH.n <| seqH.n <| Hf (10 :: 12 :: 57 :: 58 :: 59 :: KI) (Sm 111 ((10, dI s) :: (12, sI (G ++ [oU (b3 c)]).length (acc ++ b3 c).length) :: (57, dP eI row) :: (58, dI row.length) :: (59, dI j) :: lI qc rm qr N next fin cnt s) ((G ++ [oU (b3 c)]).set p .dead ++ [oU (acc ++ b3 c)])) <| Hr hxn <| Og 2 <| Od <| ⟨k - 1, om, j + 1, (G ++ [oU (b3 c)]).length, acc ++ b3 c, (G ++ [oU (b3 c)]).set p .dead ++ [oU (acc ++ b3 c)], om, by simp [b3]; omega, hg, (((hI.app _).set hp _).app _), ?_, ?_, ?_⟩
  ·have := hI.b4
   rw [List.length_append]; omega
  ·rw [show (G ++ [oU (b3 c)]).length = ((G ++ [oU (b3 c)]).set p AObj.dead).length by simp]
   exact mid_get _ _ _
  ·rw [← w64_nat om]
   kernel_rfl
 refine Hs <| Hs <| Hr hxn <| Og 2 <| On <| Hd (to ≥ 0) (fun hc => ?_) (fun hc => ?_)
 ·unfold clsOf at hcl
  rw [if_pos hc] at hcl
  obtain ⟨h0, hci, hcl'⟩ := idx_some hcl
  have ht : to = ((to.toNat : Nat) : Int) := by omega
  refine Hr hxn <| Og 2 <| Oo (fun h0 e0 => ixI (N := N) (i := to.toNat) (Hw e0 hI.c) ht (by rw [← hI.lc]; exact hcl')) <| Oo (fun h0 e0 => ldI (Hw e0 hI.c) hci) <| Og 1 <| On ?_
  exact last _ kr
 ·unfold clsOf at hcl
  rw [if_neg om] at hcl
  cases hcl
  refine Hk <| seqH.n ?_
  exact last _ kr
theorem one66 (n : Nat) {cl : List Int} {K : List ByteArray} {R : List Int} {N qc rm qr B : Nat} {s : Nat} {f : Bool} {k : ByteArray} (hrow : row.length ≤ 20000) (hN : N ≤ 20000) (hsN : s < N)
  (hs : next[s]? = some row) (hf : fin[s]? = some f) (hk : keyOfS cl s f row = some k) (hKl : K.length < 100000000) {G : List AObj} (hI : RInv cl K R N qc rm qr B G)
  (hQ : ∀ G σ, RInv cl (addK K k) (R.set s (numK K k : Nat)) N qc rm qr B G → Abs.forget KI σ = Sm 111 (lI qc rm qr N next fin cnt s) G → Q .normal σ) :
  HT B66 (Sm 111 (lI qc rm qr N next fin cnt s) G) Q := by
 have hxn := hxM n
 have hxb := hxB n
 have ix : idx next (s : Int) = some row := by rw [idx_get]; exact hs
 have ixf : idx fin (s : Int) = some f := by rw [idx_get]; exact hf
 unfold keyOfS at hk
 obtain ⟨c, hc⟩ : ∃ y, cl[s]? = some y := by
  cases h : cl[s]? with
  | none => rw [h] at hk; cases hk
  | some y => exact ⟨y, rfl⟩
 rw [hc] at hk
 have hk : (rowKey cl row (b3 c ++ [if f then 1 else 0])).map strI = some k := hk
 obtain ⟨goal, hg, rfl⟩ := zB.1 hk
 refine Hs <| Hr hxn <| Og 1 <| Oo (fun h0 e0 => xr h0 65 62 1 (eL eI) next s row ix) <| Og 3 <| On <| Hs <| Hr hxb <| Og 2 <| Oo (fun h0 e0 => ixI (N := N) (i := s) (Hw e0 hI.c) rfl hsN) <| Oo (fun h0 e0 => ldI (Hw e0 hI.c) hc) <| Og 4 <| Oo (fun h0 e0 => ixI (N := N) (i := s) (Hw e0 hI.c) rfl hsN) <| Oo (fun h0 e0 => ldI (Hw e0 hI.c) hc) <| Og 4 <| Oo (fun h0 e0 => ixI (N := N) (i := s) (Hw e0 hI.c) rfl hsN) <| Oo (fun h0 e0 => ldI (Hw e0 hI.c) hc) <| Og 3 <| On <| Hf (10 :: 11 :: 12 :: KI) (Sm 111 ((10, dI s) :: (11, dP eI row) :: (12, sI G.length 4) :: lI qc rm qr N next fin cnt s) (G ++ [oU (b3 c ++ [0])])) ?_
 have behind : ∀ (bs : List Int) (σ : St), bs = b3 c ++ [if f then 1 else 0] → Abs.forget (10 :: 11 :: 12 :: KI) σ = Sm 111 ((10, dI s) :: (11, dP eI row) :: (12, sI G.length 4) :: lI qc rm qr N next fin cnt s) (G ++ [oU bs]) → HT KC66 σ Q := by
  intro bs σ hb hσ
  refine Hg (10 :: 11 :: 12 :: KI) hσ ?_
  clear hσ
  have hb4 : bs.length = 4 := by rw [hb]; simp [b3]
  rw [show sI G.length 4 = sI G.length bs.length by rw [hb4]]
  refine Hs <| keys66 n hrow om (acc := bs) (by rw [hb]; exact hg) (hI.app [oU bs]) hI.b4 (mid_get G _ _) fun p G σ hI hp hq hσ => ?_
  refine seqH.n <| Hg (10 :: 12 :: KI) hσ ?_
  clear hσ
  rw [show sI p goal.length = .osl p 0 (goal.map e8).length false by rw [List.length_map]]
  refine Ht.freezeR (t := 12) (r := p) (k := 1) (es := goal.map e8) kr hq <| Ht.st (σ' := Sm 111 ((10, dI s) :: (12, dP e8 goal) :: lI qc rm qr N next fin cnt s) (G.set p .dead)) kr ?_
  have hI := hI.set hp .dead
  generalize G.set p .dead = G at hI
  refine Hs <| Hr hxn <| Og 1 <| Oo (fun h0 e0 => conv_r (T := TM) h0 110 9 5 .plain goal kr kr kr) <| Og 1 <| On <| Hf (10 :: 16 :: KI) (Sm 111 ((10, dI s) :: (16, .v (eS (strI goal))) :: lI qc rm qr N next fin cnt s) G) ?_
  generalize strI goal = k at hQ ⊢
  have endR : ∀ (K' : List ByteArray) (G : List AObj) (σ : St), RInv cl K' R N qc rm qr B G → K' = addK K k → kfind k K' 0 = some (numK K k) → Abs.forget (10 :: 16 :: KI) σ = Sm 111 ((10, dI s) :: (16, .v (eS k)) :: lI qc rm qr N next fin cnt s) G → HT (cR (cR (cR KC66))) σ Q := by
   intro K' G σ hI hK' hf hσ
   refine Hg (10 :: 16 :: KI) hσ <| Hr hxn <| Og 4 <| Oo (fun h0 e0 => lkS2 (Hw e0 hI.m) hf) <| Oo (fun h0 e0 => ixI (N := N) (i := s) (Hw e0 hI.r) rfl hsN) <| Oo (fun h0 e0 => stI (x := (numK K k : Nat)) (Hw e0 hI.r) (by rw [hI.lr]; exact hsN)) <| Od ?_
   subst hK'
   exact hQ _ _ (hI.ren s _) kr
  refine Hs <| Hs ?_
  cases hfk : kfind k K 0 with
  | some j =>
   have ha : addK K k = K := by unfold addK; rw [hfk]
   have hn : numK K k = j := by unfold numK; rw [hfk]; rfl
   refine Hr hxn <| Og 2 <| Oo (fun h0 e0 => lkS1 (Hw e0 hI.m) hfk) <| Og 5 <| On <| Hs <| Hr hxn <| Og 2 <| On <| Hz <| Hk <| seqH.n ?_
   exact endR K G _ hI ha.symm (by rw [hfk, hn]) kr
  | none =>
   have ha : addK K k = K ++ [k] := by unfold addK; rw [hfk]
   have hn : numK K k = K.length := by unfold numK; rw [hfk]; rfl
   refine Hr hxn <| Og 2 <| Oo (fun h0 e0 => lkS0 (Hw e0 hI.m) hfk) <| Og 5 <| On <| Hs <| Hr hxn <| Og 2 <| On <| Hy <| Hr hxn <| Og 3 <| Oo (fun h0 e0 => lenM (Hw e0 hI.m)) <| Oo (fun h0 e0 => muS (Hw e0 hI.m) hfk) <| On ?_
   exact endR (K ++ [k]) (G.set rm (oM (K ++ [k]))) _ (hI.map _) ha.symm (by rw [kfind_app hfk, hn]; simp) kr
 refine Hs <| Hs <| Hr hxn <| Og 2 <| Oo (fun h0 e0 => xr h0 66 4 1 eB fin s f ixf) <| Og 1 <| On ?_
 cases f with
 | false =>
  refine Hz <| Hk <| seqH.n ?_
  exact behind _ _ rfl kr
 | true =>
  refine Hy <| Hr hxn <| Og 1 <| Oo (fun h0 e0 => ixU (N := 4) (i := 3) (Hw (g := G ++ [oU (b3 c ++ [0])]) e0 (mid_get G _ _)) om) <| Oo (fun h0 e0 => stU (i := 3) (x := 1) (Hw (g := G ++ [oU (b3 c ++ [0])]) e0 (mid_get G _ _)) (by simp [b3])) <| On <| behind ((b3 c ++ [0]).set 3 1) _ rfl <| Eq.trans (b := Sm 111 ((10, dI s) :: (11, dP eI row) :: (12, sI G.length 4) :: lI qc rm qr N next fin cnt s) ((G ++ [oU (b3 c ++ [0])]).set G.length (oU ((b3 c ++ [0]).set 3 1)))) kr (by rw [mid_set])
theorem addK_len (K : List ByteArray) (k : ByteArray) : (addK K k).length ≤ K.length + 1 := by
 unfold addK
 split
 ·omega
 ·simp
theorem all66 (n : Nat) {cl : List Int} {N qc rm qr B : Nat} (hN : next.length = N) (hN2 : N ≤ 20000) (hrows : ∀ r ∈ next, r.length ≤ 20000) {K : List ByteArray} {R : List Int} {goal : List ByteArray × List Int}
  (hg : ren cl fin next 0 K R = some goal) {G : List AObj} (hI : RInv cl K R N qc rm qr B G)
  (hQ : ∀ s G σ, RInv cl goal.1 goal.2 N qc rm qr B G → Abs.forget KI σ = Sm 111 (lI qc rm qr N next fin cnt s) G → Q .normal σ) :
  HT (cR IN66) (Sm 111 (lI qc rm qr N next fin cnt 0) G) Q := by
 have hxn := hxM n
 refine Hb 2 <| Ht.loop (fun k σ => ∃ (s : Nat) (K : List ByteArray) (R : List Int) (G : List AObj), s + k = N ∧ ren cl fin (next.drop s) s K R = some goal ∧ RInv cl K R N qc rm qr B G ∧ Abs.forget KI σ = Sm 111 (lI qc rm qr N next fin cnt s) G) N kr
  ⟨0, K, R, G, om, hg, hI, kr⟩ ?_
 clear hI hg
 rintro k σ ⟨s, K, R, G, hk, hg, hI, hσ⟩
 refine Hg KI hσ ?_
 clear hσ
 refine Hs <| Hr hxn <| Og 1 <| On <| Hs <| Hd ((s : Int) < (next.length : Int)) (fun hc => ?_) (fun hc => ?_)
 case refine_2 =>
  have hs : s = next.length := by omega
  rw [hs, List.drop_length] at hg
  cases hg
  refine Ht.exit (id := 2) kr ?_
  show blkH 2 Q (AExit.exit 2) _
  exact blkH.x (hQ s G _ hI kr)
 have hlt : s < next.length := by omega
 rw [zI hlt] at hg
 have hx : next[s]? = some next[s] := zA hlt
 have hmem : next[s] ∈ next := List.getElem_mem hlt
 generalize next[s] = row at hg hx hmem
 have hg : (match fin[s]? with
  | none => none
  | some f => match keyOfS cl s f row with
   | none => none
   | some k => if K.length < 100000000 then ren cl fin (next.drop (s + 1)) (s + 1) (addK K k) (R.set s (numK K k : Nat)) else none) = some goal := hg
 obtain ⟨f, hf⟩ : ∃ y, fin[s]? = some y := by
  cases h : fin[s]? with
  | none => rw [h] at hg; cases hg
  | some y => exact ⟨y, rfl⟩
 rw [hf] at hg
 dsimp only at hg
 obtain ⟨ky, hky⟩ : ∃ y, keyOfS cl s f row = some y := by
  cases h : keyOfS cl s f row with
  | none => rw [h] at hg; cases hg
  | some y => exact ⟨y, rfl⟩
 rw [hky] at hg
 dsimp only at hg
 split at hg
 case isFalse => cases hg
 rename_i hKl
 refine Hk <| seqH.n <| Hs <| Hb 3 <| Hf KI (Sm 111 (lI qc rm qr N next fin cnt s) G) <| one66 n (hrows row hmem) hN2 om hx hf hky hKl hI fun G σ hI hσ => ?_
 refine blkH.n <| seqH.n <| Hg KI hσ <| Hr hxn <| Og 2 <| Od <| ⟨k - 1, om, s + 1, addK K ky, R.set s (numK K ky : Nat), G, om, hg, hI, ?_⟩
 rw [← w64_nat om]
 kernel_rfl
abbrev lO (qc N : Nat) (next : List (List Int)) (fin : List Bool) (cnt : Int) : List (Nat × D) := [(0, dP (eL eI) next), (1, dP eB fin), (6, sI qc N), (7, dI cnt)]
abbrev KO : List Nat := [0, 1, 6, 7]
theorem ren_len {cl : List Int} {fin : List Bool} : ∀ {rows : List (List Int)} {s : Nat} {K : List ByteArray} {R : List Int} {g : List ByteArray × List Int}, ren cl fin rows s K R = some g → g.2.length = R.length ∧ g.1.length ≤ K.length + rows.length
 | [], s, K, R, g, h => by cases h; exact ⟨rfl, by simp⟩
 | row :: rest, s, K, R, g, h => by
  unfold ren at h
  split at h
  ·cases h
  ·split at h
   ·cases h
   ·split at h
    ·rename_i k _ _
     obtain ⟨h1, h2⟩ := ren_len h
     have := addK_len K k
     simp only [zP] at h1
     simp only [List.length_cons]
     exact ⟨h1, om⟩
    ·cases h
theorem wk66 (n m : Nat) (next : List (List Int)) (fin : List Bool) (o : List Int × Int) (h : f66 m next fin = some o) :
  HT (bodyOf Try.prog 66) (startIn Try.prog 66 [dP (eL eI) next, dP eB fin] []) (fun e σ => (e = .normal ∨ e = .ret) ∧ ∃ d, resultsD TM σ (resOf Try.prog 66) = some d ∧ Abs.frz σ.heap 6 d = some (.tuple [eL eI o.1, vI o.2])) := by
 have hxn := hxM n
 unfold f66 at h
 split at h
 case isFalse => cases h
 rename_i hb
 obtain ⟨hN2, hall⟩ := hb
 have hrows : ∀ r ∈ next, r.length ≤ 20000 := fun r hr => by simpa using zZ.1 hall r hr
 obtain ⟨N, hN⟩ : ∃ N, next.length = N := ⟨_, rfl⟩
 rw [hN] at h hN2
 show HT C66 _ _
 refine Hs <| Hr hxn <| Og 2 <| On <| Hs ?_
 have hlen : ((next.length : Nat) : Int) = (N : Int) := by rw [hN]
 refine Hr hxn <| Og 1 <| Oo (fun h0 e0 => (show (lenD TM 65 (D.unt (dP (eL eI) next))).map (·, h0) = some (dI N, h0) from by rw [← hN]; exact lr h0 65 62 (eL eI) next)) <| Oo (fun h0 e0 => mkI (h := h0) (N := N) hN2) <| Og 1 <| On <| Hs <| Hr hxn <| Og 1 <| On <| Hf KO (Sm 111 (lO 0 N next fin 0) [oI (List.replicate N 0)]) <| Hb 0 <| Ht.loop (fun k σ => ∃ (cl : List Int) (cnt qc : Nat) (G : List AObj), cl.length = N ∧ refn next fin k cl cnt = some o ∧ G[qc]? = some (oI cl) ∧ Abs.forget KO σ = Sm 111 (lO qc N next fin cnt) G) m kr
  ⟨List.replicate N 0, 0, 0, [oI (List.replicate N 0)], by simp, h, rfl, kr⟩ ?_
 clear h
 rintro k σ ⟨cl, cnt, qc, G, hcl, h, hq, hσ⟩
 refine Hg KO hσ ?_
 clear hσ
 cases k with
 | zero => cases h
 | succ k =>
 have h : (match ren cl fin next 0 [] (List.replicate next.length 0) with
  | none => none
  | some (K, R) => if K.length = cnt then some (R, (cnt : Int)) else refn next fin k R K.length) = some o := h
 rw [hN] at h
 obtain ⟨g, hg⟩ : ∃ y, ren cl fin next 0 [] (List.replicate N 0) = some y := by
  cases h' : ren cl fin next 0 [] (List.replicate N 0) with
  | none => rw [h'] at h; cases h
  | some y => exact ⟨y, rfl⟩
 rw [hg] at h
 have h : (if g.1.length = cnt then some (g.2, (cnt : Int)) else refn next fin k g.2 g.1.length) = some o := h
 obtain ⟨hl1, hl2⟩ := ren_len hg
 refine Hb 1 <| Hs <| Hr hxn <| Og 2 <| On <| Hs <| Hr hxn <| Og 1 <| Oo (fun h0 e0 => (show (lenD TM 65 (D.unt (dP (eL eI) next))).map (·, h0) = some (dI N, h0) from by rw [← hN]; exact lr h0 65 62 (eL eI) next)) <| Oo (fun h0 e0 => mkI (h := h0) (N := N) hN2) <| Og 1 <| On <| Hf (8 :: 9 :: KO) (Sm 111 ((8, .map G.length) :: (9, sI (G ++ [AObj.map [] []]).length N) :: lO qc N next fin cnt) ((G ++ [AObj.map [] []]) ++ [oI (List.replicate N 0)])) ?_
 have hqc := yE hq
 have hI : RInv cl [] (List.replicate N 0) N qc G.length (G ++ [AObj.map [] []]).length (G.length + 2) ((G ++ [AObj.map [] []]) ++ [oI (List.replicate N 0)]) :=
  ⟨app_keep (app_keep hq), app_keep (mid_get G _ _), mid_get _ _ _, hcl, by simp, by rw [List.length_append]; omega, om, om, by simp, by simp⟩
 generalize (G ++ [AObj.map [] []]).length = qr at hI ⊢
 generalize ((G ++ [AObj.map [] []]) ++ [oI (List.replicate N 0)]) = M at hI ⊢
 generalize G.length + 2 = B at hI
 generalize G.length = rm at hI ⊢
 refine Hs <| Hs <| Hr hxn <| Og 1 <| Oo (fun h0 e0 => lr h0 65 62 (eL eI) next) <| Og 1 <| On <| Hf KI (Sm 111 (lI qc rm qr N next fin cnt 0) M) <| all66 n hN hN2 hrows hg hI fun s M σ hI hσ => ?_
 refine seqH.n <| Hg KI hσ ?_
 clear hσ
 refine Hs <| Hr hxn <| Og 2 <| On <| Hs <| Hs <| Hr hxn <| Og 1 <| Oo (fun h0 e0 => lenM (Hw e0 hI.m)) <| Og 2 <| On <| Ht.cond (((g.1.length : Nat) : Int) == (cnt : Int)) kr kr (fun hc => ?_) (fun hc => ?_)
 ·have hc : ((g.1.length : Nat) : Int) = (cnt : Int) := by simpa using hc
  rw [if_pos om] at h
  cases h
  refine Hs <| Hr hxn <| Og 4 <| On <| Ht.ret kr ?_
  have hr : resOf Try.prog 66 = [.tmp 4, .tmp 5] := by kernel_rfl
  refine seqH.r (blkH.r ?_)
  show lpH _ _ _ .ret _
  refine ⟨.inr rfl, .tuple [sI qr N, dI cnt], ?_, ?_⟩
  ·rw [hr]
   kernel_rfl
  ·have f1 := frz_row (n := 4) hI.r
   rw [List.length_map, hI.lr] at f1
   have key : ∀ (h : List AObj), h = M → Abs.frz h 6 (.tuple [sI qr N, dI cnt]) = some (.tuple [eL eI g.2, vI cnt]) := fun h e => by
    subst e
    show (allM (Abs.frz h 5) [sI qr N, dI cnt]).map V.tuple = _
    simp only [allM, show Abs.frz h 5 (sI qr N) = some (.sl .plain (g.2.map eI)) from f1]
    rfl
   exact key _ kr
 ·have hc : ¬ ((g.1.length : Nat) : Int) = (cnt : Int) := by simpa using hc
  rw [if_neg om] at h
  refine Hk <| seqH.n <| Hr hxn <| Og 1 <| Oo (fun h0 e0 => lenM (Hw e0 hI.m)) <| Og 1 <| Od <| ⟨k, om, g.2, g.1.length, qr, M, hI.lr, h, hI.r, kr⟩
theorem is66 : Is Try.prog 66 := ⟨Try.f66, Try.func66, kr, kr⟩
theorem call66 (m : Nat) (next : List (List Int)) (fin : List Bool) (o : List Int × Int) (h : f66 m next fin = some o) : CallT False Try.prog 66 [dP (eL eI) next, dP eB fin] [] fun d h' => d = .v (.tuple [eL eI o.1, vI o.2]) ∧ h' = [] :=
 callN (c := bodyOf Try.prog 66) Try.func66 kr TM_ok (wk66 0 m next fin o h)
end Go.Abs.Tf
