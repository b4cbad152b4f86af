import Derived.Test.YtgmbaemdedachaaUI
namespace Go.Abs.Tw
open Go.Sort Go.Proofs Go.Abs.Ta Go.Abs.Tb Go.Abs.Tc Go.Abs.Te Go.Abs.Tf Go.Abs.Tg Go.Abs.Th Go.Abs.Ts
set_option linter.unusedVariables false
set_option linter.unusedSimpArgs false
set_option linter.unnecessarySimpa false
set_option maxRecDepth 100000
set_option maxHeartbeats 4000000
def toHP (h : S111) : HP := (⟨h.fCt.toNat % 1048576, Nat.mod_lt _ (by decide)⟩, ⟨h.fSn.toNat % 1048576, Nat.mod_lt _ (by decide)⟩)
variable {h : S111}
theorem toHP_ok (h1 : 0 ≤ h.fCt ∧ h.fCt < 1048576) (h2 : 0 ≤ h.fSn ∧ h.fSn < 1048576) : hp (toHP h) = h := by
 cases h
 simp only [hp, toHP] at *
 congr 1 <;> omega
def toHL (l : List S111) : HL := ⟨(l.map toHP).take 1048576, by simp; omega⟩
def ordH (l : List S111) : List S111 := Tu.compactL (hps (srtC cfH (l.map toHP)))
def ordL (l : List (List S111)) : List (List S111) := Tv.compactL (hls (srtC cfL (l.map toHL)))
def stepB (r : S57) (s : S82) (p : S48) : S82 × Bool :=
 let L := leftsB p r.fCx s.fLf
 let H := hereB r.fCx s.fLf 0
 let B0 := onS r p s.fBad
 match needsB r p s.fNd [] with
 | (A, false) => (⟨L, B0, A⟩, false)
 | (A, true) =>
  let B1 := badB r p B0 H
  if ownB r p = true ∧ H = [] then (⟨L, B1, A⟩, false)
  else if fulB r B1 false then (⟨L, B1, ownN r p H A⟩, false)
  else (⟨L, ordH B1, ordL (ownN r p H A)⟩, true)
variable {r : S57}
theorem hokLt (hn : r.fCx.length ≤ 1000000) (hk : Hok r h) : hp (toHP h) = h := by
 obtain ⟨⟨c, hc⟩, h0, h1⟩ := hk
 have := idx_some hc
 exact toHP_ok ⟨this.1, om⟩ ⟨h0, om⟩
variable {l : List S111}
theorem hps_toHP (hn : r.fCx.length ≤ 1000000) (hk : ∀ h ∈ l, Hok r h) : hps (l.map toHP) = l := by
 rw [hps, List.map_map]
 conv => rhs; rw [← List.map_id l]
 exact List.map_congr_left fun h hh => hokLt hn (hk h hh)
theorem toHL_ok (hn : r.fCx.length ≤ 1000000) (hl : l.length ≤ 1000000) (hk : ∀ h ∈ l, Hok r h) : hps (toHL l).val = l := by
 show hps ((l.map toHP).take 1048576) = l
 rw [zX (by simp; omega)]
 exact hps_toHP hn hk
theorem hls_toHL (hn : r.fCx.length ≤ 1000000) {l : List (List S111)} (hk : ∀ x ∈ l, x.length ≤ 1000000 ∧ ∀ h ∈ x, Hok r h) : hls (l.map toHL) = l := by
 rw [hls, List.map_map]
 conv => rhs; rw [← List.map_id l]
 exact List.map_congr_left fun x hx => toHL_ok hn (hk x hx).1 (hk x hx).2
theorem hereB_len : ∀ (cs : List S72) (ls : List Int) (i : Nat), (hereB cs ls i).length ≤ cs.length
 | [], ls, i => by simp [hereB]
 | _ :: _, [], i => by simp [hereB]
 | c :: cs, l :: ls, i => by
  have := hereB_len cs ls (i + 1)
  simp only [hereB, List.length_append, List.length_cons]
  split <;> simp <;> omega
theorem hereB_ok (r : S57) : ∀ (cs : List S72) (ls : List Int) (i : Nat), r.fCx.drop i = cs → ∀ h ∈ hereB cs ls i, Hok r h
 | [], ls, i, _ => by simp [hereB]
 | _ :: _, [], i, _ => by simp [hereB]
 | c :: cs, l :: ls, i, e => by
  intro h hh
  have hi : r.fCx[i]? = some c := by
   have := congrArg (fun z => z[0]?) e
   simpa using this
  have he : r.fCx.drop (i + 1) = cs := by
   have := congrArg (List.drop 1) e
   rw [List.drop_drop] at this
   simpa using this
  rcases List.mem_append.1 hh with h1 | h1
  ·split at h1
   ·simp at h1
    subst h1
    exact ⟨⟨c, by rw [idx_get]; exact hi⟩, Int.le_refl _, (by omega : (0 : Int) ≤ 1000000)⟩
   ·simp at h1
  ·exact hereB_ok r cs ls (i + 1) he h h1
set_option maxHeartbeats 4000000
structure StOk (r : S57) (s : S82) : Prop where
 n : r.fCx.length ≤ 1000000
 left : s.fLf.length = r.fCx.length
 cl : ∀ c ∈ r.fCx, c.fLf.length ≤ 1000000
 rok : Rok r
 bad : s.fBad.length + r.fCx.length ≤ 1000000
 badk : ∀ h ∈ s.fBad, Hok r h
 needs : s.fNd.length < 1000000
 needk : ∀ x ∈ s.fNd, x.length ≤ 1000000 ∧ ∀ h ∈ x, Hok r h
theorem needsB_ok {r : S57} {p : S48} (hr : Rok r) : ∀ (xs A : List (List S111)), (∀ x ∈ xs, x.length ≤ 1000000 ∧ ∀ h ∈ x, Hok r h) → (∀ x ∈ A, x.length ≤ 1000000 ∧ ∀ h ∈ x, Hok r h) → ∀ x ∈ (needsB r p xs A).1, x.length ≤ 1000000 ∧ ∀ h ∈ x, Hok r h
 | [], A, _, h2 => h2
 | y :: ys, A, h1, h2 => by
  have hy := h1 y (zH ..)
  have hys := fun x hx => h1 x (zF _ hx)
  unfold needsB
  split
  ·exact h2
  ·refine needsB_ok hr ys _ hys ?_
   split
   ·exact h2
   ·intro x hx
    rcases List.mem_append.1 hx with hx | hx
    ·exact h2 x hx
    ·simp at hx
     subst hx
     exact ⟨by have := onS_len r p y; omega, onS_ok hr hy.2⟩
theorem walk50 {r : S57} {s : S82} {p : S48} (h : StOk r s) : HT C50 (startIn Try.prog 50 [.v (e57 r), .v (e82 s), .v (e48 p)] []) (fun e σ => e = .ret ∧ Fin50 (stepB r s p).1 (stepB r s p).2 σ) := by
 have hxn := hxM 1
 have hok1 := onS_ok (p := p) h.rok h.badk
 have hlen1 := onS_len r p s.fBad
 have hHl := hereB_len r.fCx s.fLf 0
 have hHk := hereB_ok r r.fCx s.fLf 0 rfl
 have hHbad := h.bad
 have hnn := h.needs
 refine Hs <| Hr hxn <| Og 5 <| On <| Hs <| Hr hxn <| Og 1 <| On <| Hs <| Hr hxn <| Og 1 <| On <| Hf KS (Sm 201 (lS (.v nilS)) (P5 r s p (.v nilS) (.v nilS) (.v nilS) [])) <| Hs <| ctxs50 1 h.n h.left h.cl fun dl d9 G σ hL hH hσ => ?_
 refine seqH.n <| Hg KS hσ ?_
 clear hσ
 refine freeze50 hL hH fun fl G _ hL => ?_
 refine bad50 1 om h.badk hL fun db G hL hB => ?_
 refine Hs ?_
 have hA := needsB_ok (p := p) h.rok s.fNd [] h.needk (by simp)
 refine needs50 om h.rok h.needk hL hB (fun A σ hz hf => ?_) fun A dn G σ hz hL hB hN hAl hσ => ?_
 ·refine ⟨rfl, ?_⟩
  unfold stepB
  rw [hz]
  exact hf
 rw [hz] at hA
 refine seqH.n <| Hg KS hσ ?_
 clear hσ
 refine flags50 1 ?_
 have hBk : ∀ x ∈ badB r p (onS r p s.fBad) (hereB r.fCx s.fLf 0), Hok r x := by
  unfold badB
  split
  ·intro x hx
   rcases List.mem_append.1 hx with hx | hx
   ·exact hok1 x hx
   ·exact hHk x hx
  ·exact hok1
 have hBl : (badB r p (onS r p s.fBad) (hereB r.fCx s.fLf 0)).length ≤ 1000000 := by
  unfold badB
  split
  ·rw [List.length_append]; omega
  ·omega
 refine here50 1 hL hB hN om fun db G hL hB hN => ?_
 refine own50 hL hB hN om hHk om (fun σ h1 h2 hf => ?_) fun dn G h1 hL hB hN => ?_
 ·refine ⟨rfl, ?_⟩
  unfold stepB
  rw [hz]
  dsimp only
  rw [if_pos ⟨h1, h2⟩]
  exact hf
 have hne : ¬ (ownB r p = true ∧ hereB r.fCx s.fLf 0 = []) := fun e => h1 e.1 e.2
 refine bads50 hL hB hN hBl hBk (fun σ h2 hf => ?_) fun h2 => ?_
 ·refine ⟨rfl, ?_⟩
  unfold stepB
  rw [hz]
  dsimp only
  rw [if_neg hne, if_pos h2]
  exact hf
 have hNk : ∀ x ∈ ownN r p (hereB r.fCx s.fLf 0) A, x.length ≤ 1000000 ∧ ∀ h ∈ x, Hok r h := by
  unfold ownN
  split
  ·split
   ·exact hA
   ·intro x hx
    rcases List.mem_append.1 hx with hx | hx
    ·exact hA x hx
    ·simp at hx
     subst hx
     exact ⟨om, hHk⟩
  ·exact hA
 have hNl : (ownN r p (hereB r.fCx s.fLf 0) A).length ≤ 1000000 := by
  unfold ownN
  split
  ·split
   ·omega
   ·simp; omega
  ·omega
 have eB := hps_toHP h.n hBk
 have eN := hls_toHL h.n hNk
 refine sort50 1 (lb := (badB r p (onS r p s.fBad) (hereB r.fCx s.fLf 0)).map toHP) hL (by rw [eB]; exact hB) hN (by rw [List.length_map]; omega) fun G hL hB hN => ?_
 refine comp50 1 hL hB hN (by rw [hps, List.length_map, srtH_length, List.length_map]; exact hBl) fun db G hL hB hN => ?_
 refine sortN50 1 (ln := (ownN r p (hereB r.fCx s.fLf 0) A).map toHL) hL hB (by rw [eN]; exact hN) (by rw [List.length_map]; omega) fun G hL hB hN => ?_
 refine compN50 1 hL hB hN (by rw [hls, List.length_map, srtL_length, List.length_map]; exact hNl) (fun x hx => ?_) fun dn G hL hB hN => ?_
 ·obtain ⟨y, hy, rfl⟩ := List.mem_map.1 hx
  obtain ⟨z, hz', rfl⟩ := List.mem_map.1 ((srtC_perm _).mem_iff.1 hy)
  have := hNk z hz'
  rw [toHL_ok h.n this.1 this.2]
  exact this.1
 refine end50 hL hB hN fun σ hf => ⟨rfl, ?_⟩
 unfold stepB
 rw [hz]
 dsimp only
 rw [if_neg hne, if_neg (by rw [h2]; decide)]
 exact hf
set_option maxHeartbeats 4000000
theorem TdN.frz4 {α : Type} {k : Nat} {f : α → V} {a b c d e : AObj} {G : List AObj} {dd : D} {T : List α} (h : TdN k f G dd T) : Abs.frz (a :: b :: c :: d :: e :: G) 4 dd = some (vP f T) := by
 rcases h with ⟨rfl, rfl⟩ | ⟨q, rfl, hq, _⟩
 ·rfl
 ·have hq' : (a :: b :: c :: d :: e :: G)[q + 5]? = some (.row k (T.map f)) := hq
  simp only [Abs.frz, hq']
  simp
  exact zX (by simp)
theorem res50 {out : S82} {ok : Bool} {σ : St} (h : Fin50 out ok σ) : ∃ d, resultsD TM σ (resOf Try.prog 50) = some d ∧ Abs.frz σ.heap 6 d = some (.tuple [e82 out, vB ok]) := by
 obtain ⟨dl, db, dn, G, hL, hB, hN, x, y, z, w, hh, h6, h7⟩ := h
 have hr : resOf Try.prog 50 = [.cell 6 83, .tmp 7] := by kernel_rfl
 have h28 : TM 83 = some ti83 := rfl
 have l1 : loadD ti83 σ.heap (.ptr 3 0) = some (mkAgg [dl, db, dn]) := by
  rw [hh]; rfl
 have f1 : FL σ.heap 4 [dl, db, dn] [vP eI out.fLf, vP e111 out.fBad, vP (eL e111) out.fNd] := by
  rw [hh]
  refine .cons _ _ hL.frz4 ?_ (.cons _ _ hB.frz4 ?_ (.cons _ _ hN.frz4 ?_ .nil))
  ·rcases hL with ⟨rfl, _⟩ | ⟨q, rfl, _⟩ <;> rfl
  ·rcases hB with ⟨rfl, _⟩ | ⟨q, rfl, _⟩ <;> rfl
  ·rcases hN with ⟨rfl, _⟩ | ⟨q, rfl, _⟩ <;> rfl
 refine ⟨mkTuple [mkAgg [dl, db, dn], dB ok], ?_, tup_frz _ (.d _ _ (mkAgg_frz f1) (mkAgg_nt _) (.v _ _ rfl rfl .nil))⟩
 rw [hr]
 simp only [resultsD, allM, resultD, h28, h6, h7, l1]
theorem is50 : Is Try.prog 50 := ⟨Try.f50, Try.func50, kr, kr⟩
theorem call50 {r : S57} {s : S82} {p : S48} (h : StOk r s) : CallT False Try.prog 50 [.v (e57 r), .v (e82 s), .v (e48 p)] [] fun d h' => d = .v (.tuple [e82 (stepB r s p).1, vB (stepB r s p).2]) ∧ h' = [] :=
 callN (c := bodyOf Try.prog 50) (N := 6) Try.func50 kr TM_ok ((walk50 (p := p) h).mono fun e σ hf => ⟨.inr hf.1, res50 hf.2⟩)
def endsB (r : S57) (s : S82) : Bool := !(fulB r s.fBad true) && s.fNd.all fun x => fulB r x true
theorem f51_iter (m0 : Nat) (r : S57) (s : S82) (hm0 : 1000001 ≤ m0) (hn : s.fNd.length ≤ 1000000) (hk : ∀ x ∈ s.fNd, x.length ≤ 1000000 ∧ ∀ h ∈ x, Hok r h) : ∀ (m i : Nat), i ≤ s.fNd.length → s.fNd.length < m + i →
  brk (iter (fun (y : Int) => f51_B1 m0 r s y) m (i : Int)) some (fun y20 => some true) = some ((s.fNd.drop i).all fun x => fulB r x true)
 | 0, i, h1, h2 => by omega
 | m + 1, i, h1, h2 => by
  by_cases hi : i < s.fNd.length
  ·have hx : s.fNd[i]? = some s.fNd[i] := zA hi
   have hm := List.getElem_mem hi
   have ix : idx s.fNd (i : Int) = some s.fNd[i] := by rw [idx_get, hx]
   rw [zI hi]
   generalize s.fNd[i] = x at hx ix hm
   obtain ⟨hl, hok⟩ := hk x hm
   have ih := f51_iter m0 r s hm0 hn hk m (i + 1) hi om
   have hB : f51_B1 m0 r s (i : Int) = if fulB r x true = true then some (.nxt ((i + 1 : Nat) : Int)) else some (.ret false) := by
    unfold f51_B1
    rw [ix, show decide ((i : Int) < (s.fNd.length : Int)) = true by simpa using hi]
    simp only [cnd_true, bnd_some', f69_eq m0 r x true hl hok om]
    cases fulB r x true
    ·rfl
    ·simp [w64_nat (show i < 1000000000 by omega)]
   rw [List.all_cons]
   unfold iter
   rw [hB]
   cases fulB r x true
   ·rfl
   ·simp only [if_true, Bool.true_and]
    exact ih
  ·have hB : f51_B1 m0 r s (i : Int) = some (.brk (i : Int)) := by
    unfold f51_B1
    rw [show decide ((i : Int) < (s.fNd.length : Int)) = false by simpa using hi]
    simp only [cnd_false]
   rw [zT (Nat.le_of_not_lt hi)]
   unfold iter
   rw [hB]
   rfl
theorem f51_eq (m : Nat) (r : S57) (s : S82) (hm : 1000001 ≤ m) (hs : StOk r s) : f51 m r s = some (endsB r s) := by
 unfold f51 endsB
 have hb := hs.bad
 have hn := hs.needs
 rw [f69_eq m r s.fBad true om hs.badk om, bnd_some']
 cases fulB r s.fBad true
 ·have := f51_iter m r s hm om hs.needk m 0 om om
  rw [List.drop_zero] at this
  exact this
 ·rfl
end Go.Abs.Tw
