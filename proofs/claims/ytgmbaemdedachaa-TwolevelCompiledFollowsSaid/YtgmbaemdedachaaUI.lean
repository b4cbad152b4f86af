import Derived.Test.YtgmbaemdedachaaUE
namespace Go.Abs.Tw
open Go.Sort Go.Proofs Go.Abs.Ta Go.Abs.Tb Go.Abs.Tc Go.Abs.Te Go.Abs.Tf Go.Abs.Tg Go.Abs.Th
set_option linter.unusedVariables false
set_option linter.unusedSimpArgs false
set_option linter.unnecessarySimpa false
set_option maxRecDepth 100000
set_option maxHeartbeats 4000000
noncomputable abbrev S38 : Code := cR S33
variable {G : List AObj}
theorem TdN.argP {α : Type} {k : Nat} {f : α → V} {a b c d e : AObj} {dd : D} {T : List α} (h : TdN k f G dd T) : Abs.argP (a :: b :: c :: d :: e :: G) dd = some (.v (.sl .plain (T.map f))) := by
 rcases h with ⟨rfl, rfl⟩ | ⟨q, rfl, hq, _⟩
 ·rfl
 ·have hq' : (a :: b :: c :: d :: e :: G)[q + 5]? = some (.row k (T.map f)) := hq
  simp only [Abs.argP, Abs.frz, hq']
  simp
  exact zX (by simp)
theorem bads50 {r : S57} {s : S82} {p : S48} {dl db dn d9 : D} {TL : List Int} {TB : List S111} {TN : List (List S111)} (hL : TdN 1 eI G dl TL) (hB : TdN 2 e111 G db TB) (hN : TdN 1 (eL e111) G dn TN)
  (hTB : TB.length ≤ 1000000) (hok : ∀ h ∈ TB, Hok r h) {Q : Post}
  (hd : ∀ σ, fulB r TB false = true → Fin50 ⟨TL, TB, TN⟩ false σ → Q .ret σ)
  (hQ : fulB r TB false = false → HT (cR S38) (Sm 201 (lS d9) (P5 r s p dl db dn G)) Q) :
  HT S38 (Sm 201 (lS d9) (P5 r s p dl db dn G)) Q := by
 have hxn := hxM 1000010
 have hz : Abs.argP (P5 r s p dl db dn G) db = some (.v (.sl .plain (TB.map e111))) := hB.argP
 refine Hs <| Hs <| Hr hxn <| Og 2 <| Oo (fun h0 e0 => lq ti80 4 1 [dl, db, dn] db (Hw (g := P5 r s p dl db dn G) e0 rfl)) <| Oo (fun h0 e0 => call_fl (E' := (XM 1000010).E) (h := h0) kr (ArgsC.cons (.v (e57 r)) _ kr (ArgsC.cons db _ (show Abs.argP h0 db = _ from (congrArg (fun z => Abs.argP z db) (show h0 = P5 r s p dl db dn G from e0.trans kr)).trans hz) (ArgsC.cons (dB false) _ kr ArgsC.nil))) kr (ok69' (n := 1000010) r TB false hTB hok (zL _))) <| On ?_
 cases hf : fulB r TB false with
 | false =>
  refine Hz <| Hk <| seqH.n ?_
  exact Ht.forget KS (Ht.st kr (hQ hf))
 | true =>
  refine Hy <| Hs <| Hr hxn <| Oo (fun h0 e0 => lq ti83 4 0 [dl, db, dn] (mkAgg [dl, db, dn]) (Hw (g := P5 r s p dl db dn G) e0 rfl)) <| Oo (fun h0 e0 => stc (i := ti83) (r := 3) (off := 0) (cs := [.v nilS, .v nilS, .v nilS]) (cs' := [dl, db, dn]) (x := mkAgg [dl, db, dn]) (Hw (g := P5 r s p dl db dn G) e0 rfl) (agg3 hL hB hN).1 (spl3 hL hB hN)) <| Og 1 <| On <| Ht.ret kr ?_
  show Q .ret _
  exact hd _ hf ⟨dl, db, dn, G, hL, hB, hN, w57 r, w82 s, w48 p, .cells [dl, db, dn], kr, kr, kr⟩
open Go.Sort Go.Proofs Go.Abs.Ta Go.Abs.Tb Go.Abs.Tc Go.Abs.Te Go.Abs.Tf Go.Abs.Tg Go.Abs.Th Go.Abs.Ts
set_option maxHeartbeats 4000000
variable {G : List AObj}
theorem TdN.set {α : Type} {k : Nat} {f : α → V} {q : Nat} {T : List α} {x : AObj} (hq : G[q]? = some (.row k (T.map f))) (hne : T ≠ []) {β : Type} {k2 : Nat} {f2 : β → V} {d2 : D} {T2 : List β} (hd : k = k2 → ∀ x y, f x = f2 y → False) (h : TdN k2 f2 G d2 T2) : TdN k2 f2 (G.set q x) d2 T2 := by
 rcases h with h | ⟨q2, rfl, hq2, hne2⟩
 ·exact .inl h
 ·refine .inr ⟨q2, rfl, set_keep (fun e => ?_) hq2, hne2⟩
  subst e
  rw [hq] at hq2
  cases T with
  | nil => exact hne rfl
  | cons x T =>
   cases T2 with
   | nil => exact hne2 rfl
   | cons y T2 =>
    simp only [Option.some.injEq, AObj.row.injEq, List.map_cons, List.cons.injEq] at hq2
    exact hd hq2.1 x y hq2.2.1
theorem hps_nil {l : List HP} (h : hps l = []) : l = [] := List.map_eq_nil_iff.1 h
variable {db : D} {lb : List HP}
theorem sortB {a b c d e : AObj} (hB : TdN 2 e111 G db (hps lb)) (hl : lb.length < 4611686018427387904) :
  ∃ G', CallT False Try.prog 70 [db, .v (.fn 71)] (a :: b :: c :: d :: e :: G) (fun d0 h0 => d0 = U ∧ h0 = a :: b :: c :: d :: e :: G') ∧ TdN 2 e111 G' db (hps (srtC cfH lb)) ∧
   ∀ {β : Type} {k2 : Nat} {f2 : β → V} {d2 : D} {T2 : List β}, (2 = k2 → ∀ x y, e111 x = f2 y → False) → TdN k2 f2 G d2 T2 → TdN k2 f2 G' d2 T2 := by
 rcases hB with ⟨rfl, h⟩ | ⟨q, rfl, hq, hne⟩
 ·have := hps_nil h
  subst this
  exact ⟨G, srt70n, .inl ⟨rfl, by rw [show srtC cfH ([] : List HP) = [] from List.eq_nil_of_length_eq_zero (by rw [srtH_length]; rfl)]; rfl⟩, fun _ h => h⟩
 ·have hn : lb ≠ [] := fun e => hne (by rw [e]; rfl)
  refine ⟨G.set q (oH (hps (srtC cfH lb))), ?_, .inr ⟨q, by simp [srtH_length], set_new hq, fun e => ?_⟩, fun hd h => TdN.set hq hne hd h⟩
  ·rw [List.length_map]
   exact srt70 (q := q + 5) (h := a :: b :: c :: d :: e :: G) hq hn hl
  ·have := congrArg List.length (hps_nil e)
   rw [srtH_length] at this
   exact hn (List.eq_nil_of_length_eq_zero this)
noncomputable abbrev S40 : Code := cR S38
theorem sort50 (w : Nat) {r : S57} {s : S82} {p : S48} {dl dn d9 : D} {TL : List Int} {TN : List (List S111)} (hL : TdN 1 eI G dl TL) (hB : TdN 2 e111 G db (hps lb)) (hN : TdN 1 (eL e111) G dn TN)
  (hl : lb.length < 4611686018427387904) {Q : Post}
  (hQ : ∀ G, TdN 1 eI G dl TL → TdN 2 e111 G db (hps (srtC cfH lb)) → TdN 1 (eL e111) G dn TN → HT (cR S40) (Sm 201 (lS d9) (P5 r s p dl db dn G)) Q) :
  HT S40 (Sm 201 (lS d9) (P5 r s p dl db dn G)) Q := by
 obtain ⟨G', hc, hB', hk⟩ := sortB (a := w57 r) (b := w82 s) (c := w48 p) (d := z83) (e := .cells [dl, db, dn]) hB hl
 have hxi := hxI true w is70 hc
 refine Hs <| Hr hxi <| Og 1 <| Oo (fun h0 e0 => lq ti80 4 1 [dl, db, dn] db (Hw (g := P5 r s p dl db dn G) e0 rfl)) <| Oo (fun h0 e0 => callI (row := true) (n := w) (f0 := 70) (ds0 := [db, .v (.fn 71)]) (h0 := P5 r s p dl db dn G) (d0 := U) (h1 := P5 r s p dl db dn G') (ds := [db, .v (.fn 71)]) (h := h0) rfl (e0.trans kr)) <| On <| Hf KS (Sm 201 (lS d9) (P5 r s p dl db dn G')) ?_
 exact hQ G' (hk (fun e => by cases e) hL) hB' (hk (fun e => by cases e) hN)
set_option maxHeartbeats 4000000
theorem is72 : Is Try.prog 72 := ⟨Try.f72, Try.func72, kr, kr⟩
theorem call72n (n : Nat) (H : List AObj) : CallT False Try.prog 72 [.v nilS] H fun d h' => d = .v nilS ∧ h' = H := by
 have hr : resOf Try.prog 72 = [.tmp 2] := by kernel_rfl
 have hxr := hxR n
 refine callT_of_ht (c := bodyOf Try.prog 72) (T := TM) Try.func72 kr TM_ok ?_
 refine Hs <| Hr hxr <| Og 1 <| On <| Hs <| Hs <| Hr hxr <| Og 3 <| On <| Hy <| Hs <| Hr hxr <| Og 2 <| On <| Ht.ret kr <| seqH.r <| ⟨.inr rfl, .v nilS, ?_, rfl, kr⟩
 have fin : ∀ σ : St, σ.tmps.getD 2 .undef = .v nilS → resultsD TM σ (resOf Try.prog 72) = some (.v nilS) := fun σ h4 => by
  rw [hr]; simp only [resultsD, allM, resultD, h4]
 exact fin _ kr
theorem comp_ne {T : List S111} (h : T ≠ []) : Tu.compactL T ≠ [] := by
 cases T with
 | nil => exact absurd rfl h
 | cons x r => simp [Tu.compactL]
variable {G : List AObj} {db : D}
theorem compB {a b c d e : AObj} {T : List S111} (hB : TdN 2 e111 G db T) (hl : T.length ≤ 1000000) :
  ∃ G' db', CallT False Try.prog 72 [db] (a :: b :: c :: d :: e :: G) (fun d0 h0 => d0 = db' ∧ h0 = a :: b :: c :: d :: e :: G') ∧ TdN 2 e111 G' db' (Tu.compactL T) ∧
   ∀ {β : Type} {k2 : Nat} {f2 : β → V} {d2 : D} {T2 : List β}, (2 = k2 → ∀ x y, e111 x = f2 y → False) → TdN k2 f2 G d2 T2 → TdN k2 f2 G' d2 T2 := by
 rcases hB with ⟨rfl, rfl⟩ | ⟨q, rfl, hq, hne⟩
 ·exact ⟨G, .v nilS, call72n 0 _, .inl ⟨rfl, rfl⟩, fun _ h => h⟩
 ·exact ⟨G.set q (.row 2 ((Tu.compactL T).map e111)), .osl (q + 5) 0 (Tu.compactL T).length false, Tu.call72 0 (a :: b :: c :: d :: e :: G) (q + 5) T hl hq,
   .inr ⟨q, rfl, set_new hq, comp_ne hne⟩, fun hd h => TdN.set hq hne hd h⟩
noncomputable abbrev S41 : Code := cR S40
theorem comp50 (w : Nat) {r : S57} {s : S82} {p : S48} {dl dn d9 : D} {TL : List Int} {TB : List S111} {TN : List (List S111)} (hL : TdN 1 eI G dl TL) (hB : TdN 2 e111 G db TB) (hN : TdN 1 (eL e111) G dn TN)
  (hl : TB.length ≤ 1000000) {Q : Post}
  (hQ : ∀ db G, TdN 1 eI G dl TL → TdN 2 e111 G db (Tu.compactL TB) → TdN 1 (eL e111) G dn TN → HT (cR S41) (Sm 201 (lS d9) (P5 r s p dl db dn G)) Q) :
  HT S41 (Sm 201 (lS d9) (P5 r s p dl db dn G)) Q := by
 obtain ⟨G', db', hc, hB', hk⟩ := compB (a := w57 r) (b := w82 s) (c := w48 p) (d := z83) (e := .cells [dl, db, dn]) hB hl
 have hxi := hxI true w is72 hc
 refine Hs <| Hr hxi <| Og 1 <| Oo (fun h0 e0 => lq ti80 4 1 [dl, db, dn] db (Hw (g := P5 r s p dl db dn G) e0 rfl)) <| Oo (fun h0 e0 => callI (row := true) (n := w) (f0 := 72) (ds0 := [db]) (h0 := P5 r s p dl db dn G) (d0 := db') (h1 := P5 r s p dl db dn G') (ds := [db]) (h := h0) rfl (e0.trans kr)) <| Og 1 <| Oo (fun h0 e0 => stc (i := ti80) (r := 4) (off := 1) (cs := [dl, db, dn]) (cs' := [dl, db', dn]) (x := db') (Hw (g := P5 r s p dl db dn G') e0 rfl) hB'.one.1 (by rw [hB'.one.2]; rfl)) <| On <| Hf KS (Sm 201 (lS d9) (P5 r s p dl db' dn G')) ?_
 exact hQ db' G' (hk (fun e => by cases e) hL) hB' (hk (fun e => by cases e) hN)
set_option maxHeartbeats 4000000
theorem hls_nil {l : List HL} (h : hls l = []) : l = [] := List.map_eq_nil_iff.1 h
variable {G : List AObj} {a b c d e : AObj} {dn : D} {ln : List HL}
theorem sortN (hN : TdN 1 (eL e111) G dn (hls ln)) (hl : ln.length < 4611686018427387904) :
  ∃ G', CallT False Try.prog 73 [dn, .v (.fn 74)] (a :: b :: c :: d :: e :: G) (fun d0 h0 => d0 = U ∧ h0 = a :: b :: c :: d :: e :: G') ∧ TdN 1 (eL e111) G' dn (hls (srtC cfL ln)) ∧
   ∀ {β : Type} {k2 : Nat} {f2 : β → V} {d2 : D} {T2 : List β}, (1 = k2 → ∀ x y, eL e111 x = f2 y → False) → TdN k2 f2 G d2 T2 → TdN k2 f2 G' d2 T2 := by
 rcases hN with ⟨rfl, h⟩ | ⟨q, rfl, hq, hne⟩
 ·have := hls_nil h
  subst this
  exact ⟨G, srt73n, .inl ⟨rfl, by rw [show srtC cfL ([] : List HL) = [] from List.eq_nil_of_length_eq_zero (by rw [srtL_length]; rfl)]; rfl⟩, fun _ h => h⟩
 ·have hn : ln ≠ [] := fun e => hne (by rw [e]; rfl)
  refine ⟨G.set q (oL (hls (srtC cfL ln))), ?_, .inr ⟨q, by simp [hls, srtL_length], set_new hq, fun e => ?_⟩, fun hd h => TdN.set hq hne hd h⟩
  ·rw [show (hls ln).length = ln.length by simp [hls]]
   exact srt73 (q := q + 5) (h := a :: b :: c :: d :: e :: G) hq hn hl
  ·have := congrArg List.length (hls_nil e)
   rw [srtL_length] at this
   exact hn (List.eq_nil_of_length_eq_zero this)
noncomputable abbrev S42 : Code := cR S41
variable {Q : Post} {TB : List S111} {TL : List Int} {d9 db dl : D} {p : S48} {r : S57} {s : S82}
theorem sortN50 (w : Nat) (hL : TdN 1 eI G dl TL) (hB : TdN 2 e111 G db TB) (hN : TdN 1 (eL e111) G dn (hls ln))
  (hl : ln.length < 4611686018427387904)
  (hQ : ∀ G, TdN 1 eI G dl TL → TdN 2 e111 G db TB → TdN 1 (eL e111) G dn (hls (srtC cfL ln)) → HT (cR S42) (Sm 201 (lS d9) (P5 r s p dl db dn G)) Q) :
  HT S42 (Sm 201 (lS d9) (P5 r s p dl db dn G)) Q := by
 obtain ⟨G', hc, hN', hk⟩ := sortN (a := w57 r) (b := w82 s) (c := w48 p) (d := z83) (e := .cells [dl, db, dn]) hN hl
 have hxi := hxI true w is73 hc
 refine Hs <| Hr hxi <| Og 1 <| Oo (fun h0 e0 => lq ti81 4 2 [dl, db, dn] dn (Hw (g := P5 r s p dl db dn G) e0 rfl)) <| Oo (fun h0 e0 => callI (row := true) (n := w) (f0 := 73) (ds0 := [dn, .v (.fn 74)]) (h0 := P5 r s p dl db dn G) (d0 := U) (h1 := P5 r s p dl db dn G') (ds := [dn, .v (.fn 74)]) (h := h0) rfl (e0.trans kr)) <| On <| Hf KS (Sm 201 (lS d9) (P5 r s p dl db dn G')) ?_
 exact hQ G' (hk (fun _ x y e => by cases e) hL) (hk (fun e => by cases e) hB) hN'
theorem is76 : Is Try.prog 76 := ⟨Try.f76, Try.func76, kr, kr⟩
theorem call76n (n : Nat) (H : List AObj) : CallT False Try.prog 76 [.v nilS, .v (.fn 77)] H fun d h' => d = .v nilS ∧ h' = H := by
 have hr : resOf Try.prog 76 = [.tmp 4] := by kernel_rfl
 have hxr := hxR n
 refine callT_of_ht (c := bodyOf Try.prog 76) (T := TM) Try.func76 kr TM_ok ?_
 refine Hs <| Hr hxr <| Og 1 <| On <| Hs <| Hs <| Hr hxr <| Og 3 <| On <| Hy <| Hs <| Hr hxr <| Og 2 <| On <| Ht.ret kr <| seqH.r <| ⟨.inr rfl, .v nilS, ?_, rfl, kr⟩
 have fin : ∀ σ : St, σ.tmps.getD 4 .undef = .v nilS → resultsD TM σ (resOf Try.prog 76) = some (.v nilS) := fun σ h4 => by
  rw [hr]; simp only [resultsD, allM, resultD, h4]
 exact fin _ kr
theorem compN_ne {T : List (List S111)} (h : T ≠ []) : Tv.compactL T ≠ [] := by
 cases T with
 | nil => exact absurd rfl h
 | cons x r => simp [Tv.compactL]
theorem compN {T : List (List S111)} (hN : TdN 1 (eL e111) G dn T) (hl : T.length ≤ 1000000) (hb : ∀ x ∈ T, x.length ≤ 1000000) :
  ∃ G' dn', CallT False Try.prog 76 [dn, .v (.fn 77)] (a :: b :: c :: d :: e :: G) (fun d0 h0 => d0 = dn' ∧ h0 = a :: b :: c :: d :: e :: G') ∧ TdN 1 (eL e111) G' dn' (Tv.compactL T) ∧
   ∀ {β : Type} {k2 : Nat} {f2 : β → V} {d2 : D} {T2 : List β}, (1 = k2 → ∀ x y, eL e111 x = f2 y → False) → TdN k2 f2 G d2 T2 → TdN k2 f2 G' d2 T2 := by
 rcases hN with ⟨rfl, rfl⟩ | ⟨q, rfl, hq, hne⟩
 ·exact ⟨G, .v nilS, call76n 0 _, .inl ⟨rfl, rfl⟩, fun _ h => h⟩
 ·exact ⟨G.set q (.row 1 ((Tv.compactL T).map (eL e111))), .osl (q + 5) 0 (Tv.compactL T).length false, Tv.call76 1000010 (a :: b :: c :: d :: e :: G) (q + 5) T hl hb (zL _) hq,
   .inr ⟨q, rfl, set_new hq, compN_ne hne⟩, fun hd h => TdN.set hq hne hd h⟩
noncomputable abbrev S43 : Code := cR S42
variable {TN : List (List S111)}
theorem compN50 (w : Nat) (hL : TdN 1 eI G dl TL) (hB : TdN 2 e111 G db TB) (hN : TdN 1 (eL e111) G dn TN)
  (hl : TN.length ≤ 1000000) (hb : ∀ x ∈ TN, x.length ≤ 1000000)
  (hQ : ∀ dn G, TdN 1 eI G dl TL → TdN 2 e111 G db TB → TdN 1 (eL e111) G dn (Tv.compactL TN) → HT (cR S43) (Sm 201 (lS d9) (P5 r s p dl db dn G)) Q) :
  HT S43 (Sm 201 (lS d9) (P5 r s p dl db dn G)) Q := by
 obtain ⟨G', dn', hc, hN', hk⟩ := compN (a := w57 r) (b := w82 s) (c := w48 p) (d := z83) (e := .cells [dl, db, dn]) hN hl hb
 have hxi := hxI true w is76 hc
 refine Hs <| Hr hxi <| Og 1 <| Oo (fun h0 e0 => lq ti81 4 2 [dl, db, dn] dn (Hw (g := P5 r s p dl db dn G) e0 rfl)) <| Oo (fun h0 e0 => callI (row := true) (n := w) (f0 := 76) (ds0 := [dn, .v (.fn 77)]) (h0 := P5 r s p dl db dn G) (d0 := dn') (h1 := P5 r s p dl db dn G') (ds := [dn, .v (.fn 77)]) (h := h0) rfl (e0.trans kr)) <| Og 1 <| Oo (fun h0 e0 => stc (i := ti81) (r := 4) (off := 2) (cs := [dl, db, dn]) (cs' := [dl, db, dn']) (x := dn') (Hw (g := P5 r s p dl db dn G') e0 rfl) hN'.one.1 (by rw [hN'.one.2]; rfl)) <| On <| Hf KS (Sm 201 (lS d9) (P5 r s p dl db dn' G')) ?_
 exact hQ dn' G' (hk (fun _ x y e => by cases e) hL) (hk (fun e => by cases e) hB) hN'
theorem end50 (hL : TdN 1 eI G dl TL) (hB : TdN 2 e111 G db TB) (hN : TdN 1 (eL e111) G dn TN)
  (hQ : ∀ σ, Fin50 ⟨TL, TB, TN⟩ true σ → Q .ret σ) :
  HT (cR S43) (Sm 201 (lS d9) (P5 r s p dl db dn G)) Q := by
 have hxn := hxM 1
 refine Hs <| Hr hxn <| Oo (fun h0 e0 => lq ti83 4 0 [dl, db, dn] (mkAgg [dl, db, dn]) (Hw (g := P5 r s p dl db dn G) e0 rfl)) <| Oo (fun h0 e0 => stc (i := ti83) (r := 3) (off := 0) (cs := [.v nilS, .v nilS, .v nilS]) (cs' := [dl, db, dn]) (x := mkAgg [dl, db, dn]) (Hw (g := P5 r s p dl db dn G) e0 rfl) (agg3 hL hB hN).1 (spl3 hL hB hN)) <| Og 1 <| On <| Ht.ret kr ?_
 exact hQ _ ⟨dl, db, dn, G, hL, hB, hN, w57 r, w82 s, w48 p, .cells [dl, db, dn], kr, kr, kr⟩
end Go.Abs.Tw
