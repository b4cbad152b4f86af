import Derived.Test.YtgmbaemdedachaaTY
namespace Go.Abs.Tw
open Go.Sort Go.Proofs Go.Abs.Ta Go.Abs.Tb Go.Abs.Tc Go.Abs.Te Go.Abs.Tf Go.Abs.Tg Go.Abs.Th
set_option linter.unusedVariables false
set_option linter.unusedSimpArgs false
set_option linter.unnecessarySimpa false
set_option maxRecDepth 100000
set_option maxHeartbeats 4000000
noncomputable abbrev R50 : Code := cR (cR (cR (cR C50)))
theorem bad50 (w : Nat) {r : S57} {s : S82} {p : S48} (hl : s.fBad.length ≤ 1000000) (hok : ∀ h ∈ s.fBad, Hok r h) {G : List AObj} {dl d9 : D} {TL : List Int} (hL : TdN 1 eI G dl TL) {Q : Post}
  (hQ : ∀ db G, TdN 1 eI G dl TL → TdN 2 e111 G db (onS r p s.fBad) → HT (cR R50) (Sm 201 (lS d9) (P5 r s p dl db (.v nilS) G)) Q) :
  HT R50 (Sm 201 (lS d9) (P5 r s p dl (.v nilS) (.v nilS) G)) Q := by
 obtain ⟨d, h', hd, hc⟩ := call68 (p := p) hl hok (P5 r s p dl (.v nilS) (.v nilS) G)
 have hxi := hxI false w is68 hc
 refine Hs ?_
 rcases hd with ⟨rfl, hz, rfl⟩ | ⟨rfl, hz, rfl⟩
 ·refine Hr hxi <| Og 4 <| Oo (fun h0 e0 => callI (row := false) (n := w) (f0 := 68) (ds0 := [.v (e57 r), dP e111 s.fBad, .v (e48 p)]) (h0 := P5 r s p dl (.v nilS) (.v nilS) G) (d0 := .v nilS) (h1 := P5 r s p dl (.v nilS) (.v nilS) G) (ds := [.v (e57 r), dP e111 s.fBad, .v (e48 p)]) (h := h0) rfl (e0.trans kr)) <| Og 2 <| On <| Hf KS (Sm 201 (lS d9) (P5 r s p dl (.v nilS) (.v nilS) G)) ?_
  exact hQ _ G hL (.inl ⟨rfl, hz⟩)
 ·refine Hr hxi <| Og 4 <| Oo (fun h0 e0 => callI (row := false) (n := w) (f0 := 68) (ds0 := [.v (e57 r), dP e111 s.fBad, .v (e48 p)]) (h0 := P5 r s p dl (.v nilS) (.v nilS) G) (d0 := .osl (P5 r s p dl (.v nilS) (.v nilS) G).length 0 (onS r p s.fBad).length false) (h1 := P5 r s p dl (.v nilS) (.v nilS) G ++ [oH (onS r p s.fBad)]) (ds := [.v (e57 r), dP e111 s.fBad, .v (e48 p)]) (h := h0) rfl (e0.trans kr)) <| Og 2 <| On <| Hf KS (Sm 201 (lS d9) (P5 r s p dl (.osl (G.length + 5) 0 (onS r p s.fBad).length false) (.v nilS) (G ++ [oH (onS r p s.fBad)]))) ?_
  exact hQ _ _ (hL.app _) (.inr ⟨G.length, rfl, mid_get _ _ _, hz⟩)
def ful1 (r : S57) (e : Bool) (h : S111) : Bool := match idx r.fCx h.fCt with
 | some c => (h.fSn == (c.fRt.length : Int)) && (c.fEnd == e)
 | none => false
def fulB (r : S57) (l : List S111) (e : Bool) : Bool := l.any (ful1 r e)
theorem f69_iter (m0 : Nat) (r : S57) (l : List S111) (e : Bool) (hl : l.length ≤ 1000000) (hok : ∀ h ∈ l, Hok r h) : ∀ (m i : Nat), i ≤ l.length → l.length < m + i →
  brk (iter (fun (y : Int) => f69_B2 m0 r l e y) m (i : Int)) some (fun y46 => some false) = some (fulB r (l.drop i) e)
 | 0, i, h1, h2 => by omega
 | m + 1, i, h1, h2 => by
  by_cases hi : i < l.length
  ·have hx : l[i]? = some l[i] := zA hi
   have hm := List.getElem_mem hi
   have ix : idx l (i : Int) = some l[i] := by rw [idx_get, hx]
   rw [zI hi]
   generalize l[i] = x at hx ix hm
   obtain ⟨⟨c, hc⟩, _, _⟩ := hok x hm
   have ih := f69_iter m0 r l e hl hok m (i + 1) hi om
   have hf : ful1 r e x = ((x.fSn == (c.fRt.length : Int)) && (c.fEnd == e)) := by unfold ful1; rw [hc]
   have hB : f69_B2 m0 r l e (i : Int) = if ful1 r e x = true then some (.ret true) else some (.nxt ((i + 1 : Nat) : Int)) := by
    unfold f69_B2 f69_r1
    rw [ix, show decide ((i : Int) < (l.length : Int)) = true by simpa using hi]
    simp only [cnd_true, bnd_some', hc]
    rw [← hf]
    cases ful1 r e x
    ·simp [w64_nat (show i < 1000000000 by omega)]
    ·rfl
   have hA : fulB r (x :: l.drop (i + 1)) e = (ful1 r e x || fulB r (l.drop (i + 1)) e) := rfl
   rw [hA]
   unfold iter
   rw [hB]
   cases ful1 r e x
   ·simp only [Bool.false_eq_true, if_false, Bool.false_or]
    exact ih
   ·rfl
  ·have hB : f69_B2 m0 r l e (i : Int) = some (.brk (i : Int)) := by
    unfold f69_B2
    rw [show decide ((i : Int) < (l.length : Int)) = false by simpa using hi]
    simp only [cnd_false]
   rw [zT (Nat.le_of_not_lt hi)]
   unfold iter
   rw [hB]
   rfl
theorem f69_eq (m : Nat) (r : S57) (l : List S111) (e : Bool) (hl : l.length ≤ 1000000) (hok : ∀ h ∈ l, Hok r h) (hm : l.length < m) : f69 m r l e = some (fulB r l e) := by
 have := f69_iter m r l e hl hok m 0 om om
 rw [List.drop_zero] at this
 exact this
theorem ok69' {n : Nat} (r : S57) (l : List S111) (e : Bool) (hl : l.length ≤ 1000000) (hok : ∀ h ∈ l, Hok r h) (hn : 1000010 ≤ n) : Fn Try.prog E n 69 [.v (e57 r), .v (eL e111 l), .v (eB e)] (eB (fulB r l e)) :=
 ok69 1000001 r l e _ (f69_eq _ r l e hl hok om) n om
theorem onS_len (r : S57) (p : S48) (l : List S111) : (onS r p l).length ≤ l.length := by
 unfold onS
 rw [List.length_map]
 exact List.length_filter_le _ _
set_option maxHeartbeats 4000000
theorem eqD2 (a b : Int) (h : List AObj) : (binD TM .eql 3 (D.unt (dI a)) (D.unt (dI b))).map (·, h) = some (dB (a == b), h) := rfl
def Rok (r : S57) : Prop := ∀ h c, idx r.fCx h = some c → c.fRt.length ≤ 1000000
variable {p : S48} {r : S57}
theorem onS_ok {l : List S111} (hr : Rok r) (hok : ∀ h ∈ l, Hok r h) : ∀ h ∈ onS r p l, Hok r h := by
 intro h hh
 obtain ⟨a, ha, rfl⟩ := List.mem_map.1 hh
 obtain ⟨h1, h2⟩ := List.mem_filter.1 ha
 obtain ⟨⟨c, hc⟩, h0, _⟩ := hok a h1
 refine ⟨⟨c, hc⟩, by show 0 ≤ a.fSn + 1; omega, ?_⟩
 show a.fSn + 1 ≤ 1000000
 have h3 := hr _ _ hc
 unfold goes at h2
 rw [hc] at h2
 dsimp only at h2
 cases hq : idx c.fRt a.fSn with
 | none => rw [hq] at h2; cases h2
 | some q =>
  have := idx_some hq
  omega
def needsB (r : S57) (p : S48) : List (List S111) → List (List S111) → List (List S111) × Bool
 | [], A => (A, true)
 | x :: xs, A => if onS r p x = [] then (A, false) else needsB r p xs (if fulB r (onS r p x) false then A else A ++ [onS r p x])
def Fin50 (out : S82) (ok : Bool) (σ : St) : Prop := ∃ dl db dn G, TdN 1 eI G dl out.fLf ∧ TdN 2 e111 G db out.fBad ∧ TdN 1 (eL e111) G dn out.fNd ∧ ∃ x y z w, σ.heap = x :: y :: z :: AObj.cells [dl, db, dn] :: w :: G ∧ σ.tmps.getD 6 .undef = .ptr 3 0 ∧ σ.tmps.getD 7 .undef = dB ok
variable {G : List AObj} {α β γ : Type} {T1 : List α} {T2 : List β} {T3 : List γ} {db dl dn : D} {f1 : α → V} {f2 : β → V} {f3 : γ → V} {k1 k2 k3 : Nat}
theorem agg3 (h1 : TdN k1 f1 G dl T1) (h2 : TdN k2 f2 G db T2) (h3 : TdN k3 f3 G dn T3) :
  ((mkAgg [dl, db, dn]).solid && (mkAgg [dl, db, dn]).cells.length == ti83.size) = true ∧ (mkAgg [dl, db, dn]).cells = [dl, db, dn] := by
 rcases h1 with ⟨rfl, _⟩ | ⟨q1, rfl, _⟩ <;> rcases h2 with ⟨rfl, _⟩ | ⟨q2, rfl, _⟩ <;> rcases h3 with ⟨rfl, _⟩ | ⟨q3, rfl, _⟩ <;> exact ⟨rfl, rfl⟩
theorem spl3 (h1 : TdN k1 f1 G dl T1) (h2 : TdN k2 f2 G db T2) (h3 : TdN k3 f3 G dn T3) :
  splice [.v nilS, .v nilS, .v nilS] 0 (mkAgg [dl, db, dn]).cells = some [dl, db, dn] := by
 rw [(agg3 h1 h2 h3).2]; rfl
noncomputable abbrev N50 : Code := cL (cR R50)
noncomputable abbrev BN50 : Code := cL (cL (cR N50))
abbrev lN (s : S82) (d9 : D) (j : Nat) : List (Nat × D) := [(3, .ptr 0 0), (4, .ptr 1 0), (5, .ptr 2 0), (6, .ptr 3 0), (8, .ptr 4 0), (9, d9), (88, dP (eL e111) s.fNd), (89, dI s.fNd.length), (90, dI j)]
abbrev KN : List Nat := [3, 4, 5, 6, 8, 9, 88, 89, 90]
theorem needs50 {s : S82} (hn : s.fNd.length ≤ 1000000) (hr : Rok r) (hx : ∀ x ∈ s.fNd, x.length ≤ 1000000 ∧ ∀ h ∈ x, Hok r h)
  {d9 : D} {TL : List Int} {TB : List S111} (hL : TdN 1 eI G dl TL) (hB : TdN 2 e111 G db TB) {Q : Post}
  (hd : ∀ A σ, needsB r p s.fNd [] = (A, false) → Fin50 ⟨TL, TB, A⟩ false σ → Q .ret σ)
  (hQ : ∀ A dn G σ, needsB r p s.fNd [] = (A, true) → TdN 1 eI G dl TL → TdN 2 e111 G db TB → TdN 1 (eL e111) G dn A → A.length ≤ s.fNd.length → Abs.forget KS σ = Sm 201 (lS d9) (P5 r s p dl db dn G) → Q .normal σ) :
  HT N50 (Sm 201 (lS d9) (P5 r s p dl db (.v nilS) G)) Q := by
 have hxn := hxM 1000010
 have hxr := hxR 1000010
 refine Hs <| Hr hxn <| Og 2 <| Oo (fun h0 e0 => lr h0 81 80 (eL e111) s.fNd) <| Og 1 <| On <| Ht.gen fun Q2 hQ2 => ?_
 refine Hb 4 <| Ht.loop (fun n σ => ∃ (j : Nat) (dn : D) (A : List (List S111)) (G : List AObj), j + n = s.fNd.length ∧ A.length ≤ j ∧ needsB r p (s.fNd.drop j) A = needsB r p s.fNd [] ∧
  TdN 1 eI G dl TL ∧ TdN 2 e111 G db TB ∧ TdN 1 (eL e111) G dn A ∧ Abs.forget KN σ = Sm 201 (lN s d9 j) (P5 r s p dl db dn G)) s.fNd.length kr
  ⟨0, .v nilS, [], G, om, zL _, rfl, hL, hB, .inl ⟨rfl, rfl⟩, kr⟩ ?_
 clear hL hB
 rintro n σ ⟨j, dn, A, G, hj, hA, hg, hL, hB, hN, hσ⟩
 refine Hg KN hσ ?_
 clear hσ
 refine Hs <| Hr hxn <| Og 1 <| On <| Hs <| Hd ((j : Int) < (s.fNd.length : Int)) (fun hc => ?_) (fun hc => ?_)
 case refine_2 =>
  rw [zT om] at hg
  refine Ht.exit (id := 4) kr ?_
  show blkH 4 Q2 (AExit.exit 4) _
  exact blkH.x (hQ2 _ _ (hQ A dn G _ hg.symm hL hB hN om kr))
 have hlt : j < s.fNd.length := by omega
 rw [zI hlt] at hg
 have hy : s.fNd[j]? = some s.fNd[j] := zA hlt
 have hm := List.getElem_mem hlt
 generalize s.fNd[j] = x at hg hy hm
 have ix : idx s.fNd (j : Int) = some x := by rw [idx_get]; exact hy
 obtain ⟨hxl, hxk⟩ := hx x hm
 have hxp := hxP false 1000010 is68 (call68p (p := p) hxl hxk)
 have hok := onS_ok (p := p) hr hxk
 have hol := onS_len r p x
 rw [needsB] at hg
 generalize hl : onS r p x = l at *
 refine Hk <| seqH.n <| Hs <| Hb 5 <| Hs <| Hr hxn <| Oo (fun h0 e0 => xr h0 81 80 1 (eL e111) s.fNd j x ix) <| Og 2 <| On <| Hs <| Hr hxp <| Og 3 <| Oo (fun h0 e0 => callP (row := false) (n := 1000010) (f0 := 68) (ds0 := [.v (e57 r), dP e111 x, .v (e48 p)]) (ds := [.v (e57 r), dP e111 x, .v (e48 p)]) (h := h0) (r := vP e111 l) rfl rfl rfl) <| Og 1 <| On <| Hf (16 :: KN) (Sm 201 ((16, dP e111 l) :: lN s d9 j) (P5 r s p dl db dn G)) ?_
 have last : ∀ (dn : D) (A : List (List S111)) (G : List AObj) σ, A.length ≤ j + 1 → needsB r p (s.fNd.drop (j + 1)) A = needsB r p s.fNd [] → TdN 1 eI G dl TL → TdN 2 e111 G db TB → TdN 1 (eL e111) G dn A →
   Abs.forget KN σ = Sm 201 (lN s d9 j) (P5 r s p dl db dn G) → HT (cR (cR (cR BN50))) σ (lpH (fun n σ => ∃ (j : Nat) (dn : D) (A : List (List S111)) (G : List AObj), j + n = s.fNd.length ∧ A.length ≤ j ∧ needsB r p (s.fNd.drop j) A = needsB r p s.fNd [] ∧
  TdN 1 eI G dl TL ∧ TdN 2 e111 G db TB ∧ TdN 1 (eL e111) G dn A ∧ Abs.forget KN σ = Sm 201 (lN s d9 j) (P5 r s p dl db dn G)) n (blkH 4 Q2)) := by
  intro dn A G σ h1 h2 h3 h4 h5 hσ
  refine Hg KN hσ <| Hr hxn <| Og 2 <| Od <| ⟨n - 1, om, j + 1, dn, A, G, om, h1, h2, h3, h4, h5, ?_⟩
  refine Eq.trans ?_ (congrArg (fun z => Sm 201 [(3, .ptr 0 0), (4, .ptr 1 0), (5, .ptr 2 0), (6, .ptr 3 0), (8, .ptr 4 0), (9, d9), (88, dP (eL e111) s.fNd), (89, dI s.fNd.length), (90, dI z)] (P5 r s p dl db dn G)) (w64_nat (j := j) om))
  kernel_rfl
 refine Hs <| Hs ?_
 by_cases hz : l = []
 case pos =>
  rw [if_pos hz] at hg
  refine Hr hxn <| Og 1 <| Oo (fun h0 e0 => lr h0 80 112 e111 l) <| Oo (fun h0 e0 => bo h0 .eql l.length 0 true (by rw [eqD2, hz]; rfl)) <| On <| Hy <| Hs <| Hr hxn <| Oo (fun h0 e0 => lq ti83 4 0 [dl, db, dn] (mkAgg [dl, db, dn]) (Hw (g := P5 r s p dl db dn G) e0 rfl)) <| Oo (fun h0 e0 => stc (i := ti83) (r := 3) (off := 0) (cs := [.v nilS, .v nilS, .v nilS]) (cs' := [dl, db, dn]) (x := mkAgg [dl, db, dn]) (Hw (g := P5 r s p dl db dn G) e0 rfl) (agg3 hL hB hN).1 (spl3 hL hB hN)) <| Og 1 <| On <| Ht.ret kr ?_
  show Q2 .ret _
  refine hQ2 _ _ (hd A _ hg.symm ⟨dl, db, dn, G, hL, hB, hN, w57 r, w82 s, w48 p, .cells [dl, db, dn], kr, kr, kr⟩)
 rw [if_neg hz] at hg
 refine Hr hxn <| Og 1 <| Oo (fun h0 e0 => lr h0 80 112 e111 l) <| Oo (fun h0 e0 => bo h0 .eql l.length 0 false (by rw [eqD2]; have := List.length_pos_iff.2 hz; rw [show ((l.length : Int) == 0) = false by simp; omega])) <| On <| Hz <| Hk <| seqH.n <| Hs <| Hr hxn <| Og 2 <| Oo (fun h0 e0 => call_ok (E' := (XM 1000010).E) (h := h0) kr (Args.v (e57 r) (e57 r) kr (Args.v (vP e111 l) (eL e111 l) kr (Args.v (vB false) (eB false) kr Args.nil))) (ok69' (n := 1000010) r l false om hok (zL _))) <| Og 1 <| On ?_
 cases hf : fulB r l false with
 | true =>
  rw [hf] at hg
  refine Hz <| Hk <| blkH.n <| seqH.n ?_
  exact last dn A G _ om hg hL hB hN kr
 | false =>
  rw [hf] at hg
  refine Hy ?_
  obtain ⟨G', ha, hN', _, hk⟩ := TdN.push apLs (a := w57 r) (b := w82 s) (c := w48 p) (d := z83) (e := .cells [dl, db, dn]) hN l om
  refine Hr hxr <| Og 4 <| Oo (fun h0 e0 => ha h0 (e0.trans kr)) <| Og 2 <| Od <| blkH.n <| seqH.n ?_
  exact last _ _ G' _ (by simp; omega) hg (hk (fun _ x y e => by cases e) hL) (hk (fun e => by cases e) hB) hN' kr
set_option maxHeartbeats 4000000
def eq48 (a b : S48) : Bool := (a.fLx == b.fLx) && ((a.fSf == b.fSf) && true)
def neverB (r : S57) (p : S48) : Bool := (r.fKn == 4) && eq48 p r.fPr
def otherB (r : S57) (p : S48) : Bool := ((r.fKn == 2 || r.fKn == 3) && (p.fLx == r.fPr.fLx)) && !(eq48 p r.fPr)
def ownB (r : S57) (p : S48) : Bool := (r.fKn == 1 || r.fKn == 3) && eq48 p r.fPr
noncomputable abbrev F50 : Code := cR (cR R50)
theorem flags50 (w : Nat) {r : S57} {s : S82} {p : S48} {G : List AObj} {dl db dn d9 : D} {Q : Post}
  (hQ : HT (cR (cR F50)) (Sm 201 ((17, dB (neverB r p)) :: (18, dB (otherB r p)) :: lS d9) (P5 r s p dl db dn G)) Q) :
  HT F50 (Sm 201 (lS d9) (P5 r s p dl db dn G)) Q := by
 have hxn := hxM w
 have second : ∀ b, b = neverB r p → HT (cR F50) (Sm 201 ((17, dB b) :: lS d9) (P5 r s p dl db dn G)) Q := by
  rintro b rfl
  have fin : ∀ (b2 : Bool) σ, b2 = otherB r p → Abs.forget (17 :: 18 :: KS) σ = Sm 201 ((17, dB (neverB r p)) :: (18, dB b2) :: lS d9) (P5 r s p dl db dn G) → HT (cR (cR F50)) σ Q := by
   rintro b2 σ rfl hσ
   exact Ht.forget (17 :: 18 :: KS) (Ht.st hσ hQ)
  refine Hs ?_
  cases h2 : (r.fKn == 2) with
  | true =>
   cases hl : (p.fLx == r.fPr.fLx) with
   | true =>
    refine Hr hxn <| Og 2 <| Oo (fun h0 e0 => bo h0 .eql r.fKn 2 true (by rw [eqD2, h2])) <| Og 11 <| Oo (fun h0 e0 => bo h0 .eql p.fLx r.fPr.fLx true (by rw [eqD2, hl])) <| Og 8 <| On ?_
    exact fin (!(eq48 p r.fPr)) _ (by unfold otherB; rw [h2, hl]; rfl) kr
   | false =>
    refine Hr hxn <| Og 2 <| Oo (fun h0 e0 => bo h0 .eql r.fKn 2 true (by rw [eqD2, h2])) <| Og 11 <| Oo (fun h0 e0 => bo h0 .eql p.fLx r.fPr.fLx false (by rw [eqD2, hl])) <| Og 8 <| On ?_
    exact fin false _ (by unfold otherB; rw [h2, hl]; rfl) kr
  | false =>
   cases h3 : (r.fKn == 3) with
   | false =>
    refine Hr hxn <| Og 2 <| Oo (fun h0 e0 => bo h0 .eql r.fKn 2 false (by rw [eqD2, h2])) <| Og 3 <| Oo (fun h0 e0 => bo h0 .eql r.fKn 3 false (by rw [eqD2, h3])) <| Og 16 <| On ?_
    exact fin false _ (by unfold otherB; rw [h2, h3]; rfl) kr
   | true =>
    cases hl : (p.fLx == r.fPr.fLx) with
    | true =>
     refine Hr hxn <| Og 2 <| Oo (fun h0 e0 => bo h0 .eql r.fKn 2 false (by rw [eqD2, h2])) <| Og 3 <| Oo (fun h0 e0 => bo h0 .eql r.fKn 3 true (by rw [eqD2, h3])) <| Og 7 <| Oo (fun h0 e0 => bo h0 .eql p.fLx r.fPr.fLx true (by rw [eqD2, hl])) <| Og 8 <| On ?_
     exact fin (!(eq48 p r.fPr)) _ (by unfold otherB; rw [h2, h3, hl]; rfl) kr
    | false =>
     refine Hr hxn <| Og 2 <| Oo (fun h0 e0 => bo h0 .eql r.fKn 2 false (by rw [eqD2, h2])) <| Og 3 <| Oo (fun h0 e0 => bo h0 .eql r.fKn 3 true (by rw [eqD2, h3])) <| Og 7 <| Oo (fun h0 e0 => bo h0 .eql p.fLx r.fPr.fLx false (by rw [eqD2, hl])) <| Og 8 <| On ?_
     exact fin false _ (by unfold otherB; rw [h2, h3, hl]; rfl) kr
 refine Hs ?_
 cases h4 : (r.fKn == 4) with
 | true =>
  refine Hr hxn <| Og 2 <| Oo (fun h0 e0 => bo h0 .eql r.fKn 4 true (by rw [eqD2, h4])) <| Og 7 <| On <| Hf (17 :: KS) (Sm 201 ((17, dB (eq48 p r.fPr)) :: lS d9) (P5 r s p dl db dn G)) ?_
  exact second _ (by unfold neverB; rw [h4]; rfl)
 | false =>
  refine Hr hxn <| Og 2 <| Oo (fun h0 e0 => bo h0 .eql r.fKn 4 false (by rw [eqD2, h4])) <| Og 7 <| On <| Hf (17 :: KS) (Sm 201 ((17, dB false) :: lS d9) (P5 r s p dl db dn G)) ?_
  exact second _ (by unfold neverB; rw [h4]; rfl)
set_option maxHeartbeats 4000000
theorem elH (h : List AObj) (fl : SFlag) (TH : List S111) : elemsOf 2 h (D.unt (.v (.sl fl (TH.map e111)))) = some (TH.map e111) := by cases TH <;> rfl
variable {fl : SFlag}
theorem apHL {h : List AObj} (x : S111) (r : List S111) (hl : (x :: r).length < 100000000) :
  appendD TM true 80 h (.v nilS) (.v (.sl fl ((x :: r).map e111))) = some (.osl h.length 0 (x :: r).length false, h ++ [oH (x :: r)]) := by
 have h1 : TM 80 = some ti80 := rfl
 have h2 : TM 112 = some ti112 := rfl
 have hx := elH h fl (x :: r)
 simp only [appendD, h1, show ti80.kind = .slice 112 from rfl, h2]
 rw [if_neg (by decide), show ti112.size = 2 from rfl, hx]
 simp only [List.map_cons]
 rw [if_pos ?_]
 ·simp
 ·simp only [Bool.and_eq_true, decide_eq_true_eq]
  refine ⟨⟨⟨rfl, rfl⟩, ?_⟩, ?_⟩
  ·rw [show ti112.bytes = 16 from rfl]
   simp at hl ⊢
   omega
  ·unfold maxLen
   simp at hl ⊢
   omega
variable {G : List AObj} {TB TH : List S111} {db : D}
theorem TdN.app2 {a b c d e : AObj} (hB : TdN 2 e111 G db TB) (hl : TB.length + TH.length < 100000000) :
  ∃ db' G', (∀ h, h = a :: b :: c :: d :: e :: G → appendD TM true 80 h db (.v (.sl fl (TH.map e111))) = some (db', a :: b :: c :: d :: e :: G')) ∧ TdN 2 e111 G' db' (TB ++ TH) ∧
   ∀ {β : Type} {k2 : Nat} {f2 : β → V} {d2 : D} {T2 : List β}, (2 = k2 → ∀ x y, e111 x = f2 y → False) → TdN k2 f2 G d2 T2 → TdN k2 f2 G' d2 T2 := by
 rcases hB with ⟨rfl, rfl⟩ | ⟨q, rfl, hq, hne⟩
 ·cases TH with
  | nil => exact ⟨.v nilS, G ++ [.dead], fun h e => by subst e; rfl, .inl ⟨rfl, rfl⟩, fun _ h => h.app _⟩
  | cons x r => exact ⟨.osl (G.length + 5) 0 (x :: r).length false, G ++ [oH (x :: r)], fun h e => by subst e; exact apHL x r (by simpa using hl), .inr ⟨G.length, rfl, mid_get _ _ _, by simp⟩, fun _ h => h.app _⟩
 ·refine ⟨.osl (G.length + 5) 0 (TB ++ TH).length false, G.set q .dead ++ [oH (TB ++ TH)], fun h e => by subst e; exact apH (q := q + 5) (T := TB) (ys := TH) hq (elH _ fl TH) om, .inr ⟨G.length, rfl, ?_, by simp [hne]⟩, fun {β k2 f2 d2 T2} hd h => ?_⟩
  ·rw [show G.length = (G.set q AObj.dead).length by simp]
   exact mid_get _ _ _
  ·rcases h with h | ⟨q2, rfl, hq2, hne2⟩
   ·exact .inl h
   ·refine .inr ⟨q2, rfl, app_keep (set_keep (fun e => ?_) hq2), hne2⟩
    subst e
    rw [hq] at hq2
    cases TB with
    | nil => exact hne rfl
    | cons x T =>
     cases T2 with
     | nil => exact hne2 rfl
     | cons y T2 =>
      simp only [Option.some.injEq, AObj.row.injEq, List.map_cons, List.cons.injEq] at hq2
      exact hd hq2.1 x y hq2.2.1
theorem TdN.one {α : Type} {k : Nat} {f : α → V} {d : D} {T : List α} (h : TdN k f G d T) : (d.solid && d.cells.length == 1) = true ∧ d.cells = [d] := by
 rcases h with ⟨rfl, _⟩ | ⟨q, rfl, _⟩ <;> exact ⟨rfl, rfl⟩
noncomputable abbrev S31 : Code := cR (cR F50)
def badB (r : S57) (p : S48) (TB TH : List S111) : List S111 := if neverB r p || otherB r p then TB ++ TH else TB
theorem here50 (w : Nat) {r : S57} {s : S82} {p : S48} {dl dn : D} {TL : List Int} {TN : List (List S111)} (hL : TdN 1 eI G dl TL) (hB : TdN 2 e111 G db TB) (hN : TdN 1 (eL e111) G dn TN)
  (hl : TB.length + TH.length < 100000000) {Q : Post}
  (hQ : ∀ db G, TdN 1 eI G dl TL → TdN 2 e111 G db (badB r p TB TH) → TdN 1 (eL e111) G dn TN → HT (cR S31) (Sm 201 (lS (.v (.sl fl (TH.map e111)))) (P5 r s p dl db dn G)) Q) :
  HT S31 (Sm 201 ((17, dB (neverB r p)) :: (18, dB (otherB r p)) :: lS (.v (.sl fl (TH.map e111)))) (P5 r s p dl db dn G)) Q := by
 have hxn := hxM w
 have hxr := hxR w
 have yes : ∀ σ, (neverB r p || otherB r p) = true → Abs.forget KS σ = Sm 201 (lS (.v (.sl fl (TH.map e111)))) (P5 r s p dl db dn G) → HT (cL (cR (cL S31))) σ (SH (cR S31) Q) := by
  intro σ hb hσ
  obtain ⟨db', G', ha, hB', hk⟩ := TdN.app2 (a := w57 r) (b := w82 s) (c := w48 p) (d := z83) (e := .cells [dl, db, dn]) (fl := fl) (TH := TH) hB hl
  refine Hg KS hσ <| Hr hxr <| Og 3 <| Oo (fun h0 e0 => ha h0 (e0.trans kr)) <| Og 1 <| Oo (fun h0 e0 => stc (i := ti80) (r := 4) (off := 1) (cs := [dl, db, dn]) (cs' := [dl, db', dn]) (x := db') (Hw (g := w57 r :: w82 s :: w48 p :: z83 :: AObj.cells [dl, db, dn] :: G') e0 rfl) hB'.one.1 (by rw [hB'.one.2]; rfl)) <| On <| Ht.forget KS (Ht.st (σ' := Sm 201 (lS (.v (.sl fl (TH.map e111)))) (P5 r s p dl db' dn G')) ?_ ?_)
  ·kernel_rfl
  ·exact hQ db' G' (hk (fun e => by cases e) hL) (by unfold badB; rw [hb]; exact hB') (hk (fun e => by cases e) hN)
 have no : ∀ σ, (neverB r p || otherB r p) = false → Abs.forget KS σ = Sm 201 (lS (.v (.sl fl (TH.map e111)))) (P5 r s p dl db dn G) → HT (cR (cR (cL S31))) σ (SH (cR S31) Q) := by
  intro σ hb hσ
  refine Hg KS hσ <| Hk <| seqH.n ?_
  exact hQ db G hL (by unfold badB; rw [hb]; exact hB) hN
 refine Hs <| Hs ?_
 cases h1 : neverB r p with
 | true =>
  refine Hr hxn <| Og 4 <| On <| Hy ?_
  exact yes _ (by rw [h1]; rfl) kr
 | false =>
  refine Hr hxn <| Og 4 <| On <| Ht.cond (otherB r p) kr kr (fun hc => ?_) (fun hc => ?_)
  ·exact yes _ (by rw [h1, hc]; rfl) kr
  ·exact no _ (by rw [h1, hc]; rfl) kr
set_option maxHeartbeats 4000000
noncomputable abbrev S33 : Code := cR S31
noncomputable abbrev X33 : Code := cL S33
def ownN (r : S57) (p : S48) (TH : List S111) (TN : List (List S111)) : List (List S111) := if ownB r p then (if fulB r TH false then TN else TN ++ [TH]) else TN
theorem own50 {r : S57} {s : S82} {p : S48} {G : List AObj} {dl db dn : D} {fl : SFlag} {TL : List Int} {TB TH : List S111} {TN : List (List S111)} (hL : TdN 1 eI G dl TL) (hB : TdN 2 e111 G db TB) (hN : TdN 1 (eL e111) G dn TN)
  (hTH : TH.length ≤ 1000000) (hok : ∀ h ∈ TH, Hok r h) (hTN : TN.length < 100000000) {Q : Post}
  (hd : ∀ σ, ownB r p = true → TH = [] → Fin50 ⟨TL, TB, TN⟩ false σ → Q .ret σ)
  (hQ : ∀ dn G, (ownB r p = true → TH ≠ []) → TdN 1 eI G dl TL → TdN 2 e111 G db TB → TdN 1 (eL e111) G dn (ownN r p TH TN) → HT (cR S33) (Sm 201 (lS (.v (.sl fl (TH.map e111)))) (P5 r s p dl db dn G)) Q) :
  HT S33 (Sm 201 (lS (.v (.sl fl (TH.map e111)))) (P5 r s p dl db dn G)) Q := by
 have hxn := hxM 1000010
 have hxr := hxR 1000010
 have body : ∀ b σ, b = ownB r p → σ.tmps.getD 166 .undef = dB b → Abs.forget KS σ = Sm 201 (lS (.v (.sl fl (TH.map e111)))) (P5 r s p dl db dn G) → HT (cR X33) σ (SH (cR S33) Q) := by
  rintro b σ hb hv hσ
  refine Ht.cond b kr hv (fun hc => ?_) (fun hc => ?_)
  case refine_2 =>
   refine Hg KS hσ <| Hk <| seqH.n ?_
   exact hQ dn G (fun h => by rw [← hb, hc] at h; cases h) hL hB (by unfold ownN; rw [← hb, hc]; exact hN)
  rw [hc] at hb
  refine Hg KS hσ <| Hs <| Hs ?_
  by_cases hz : TH = []
  ·refine Hr hxn <| Og 1 <| Oo (fun h0 e0 => len_r (T := TM) h0 80 112 fl e111 TH kr) <| Oo (fun h0 e0 => bo h0 .eql TH.length 0 true (by rw [eqD2, hz]; rfl)) <| On <| Hy <| Hs <| Hr hxn <| Oo (fun h0 e0 => lq ti83 4 0 [dl, db, dn] (mkAgg [dl, db, dn]) (Hw (g := P5 r s p dl db dn G) e0 rfl)) <| Oo (fun h0 e0 => stc (i := ti83) (r := 3) (off := 0) (cs := [.v nilS, .v nilS, .v nilS]) (cs' := [dl, db, dn]) (x := mkAgg [dl, db, dn]) (Hw (g := P5 r s p dl db dn G) e0 rfl) (agg3 hL hB hN).1 (spl3 hL hB hN)) <| Og 1 <| On <| Ht.ret kr ?_
   show Q .ret _
   exact hd _ hb.symm hz ⟨dl, db, dn, G, hL, hB, hN, w57 r, w82 s, w48 p, .cells [dl, db, dn], kr, kr, kr⟩
  refine Hr hxn <| Og 1 <| Oo (fun h0 e0 => len_r (T := TM) h0 80 112 fl e111 TH kr) <| Oo (fun h0 e0 => bo h0 .eql TH.length 0 false (by rw [eqD2]; have := List.length_pos_iff.2 hz; rw [show ((TH.length : Int) == 0) = false by simp; omega])) <| On <| Hz <| Hk <| seqH.n <| Hs <| Hr hxn <| Og 2 <| Oo (fun h0 e0 => call_ok (E' := (XM 1000010).E) (h := h0) kr (Args.v (e57 r) (e57 r) kr (Args.v (.sl fl (TH.map e111)) (eL e111 TH) kr (Args.v (vB false) (eB false) kr Args.nil))) (ok69' (n := 1000010) r TH false hTH hok (zL _))) <| Og 1 <| On ?_
  cases hf : fulB r TH false with
  | true =>
   refine Hz <| Hk <| seqH.n <| Hf KS (Sm 201 (lS (.v (.sl fl (TH.map e111)))) (P5 r s p dl db dn G)) ?_
   exact hQ dn G (fun _ => hz) hL hB (by unfold ownN; rw [← hb, hf]; exact hN)
  | false =>
   refine Hy ?_
   obtain ⟨G', ha, hN', _, hk⟩ := TdN.push apLs (a := w57 r) (b := w82 s) (c := w48 p) (d := z83) (e := .cells [dl, db, dn]) hN TH hTN
   refine Hr hxr <| Og 4 <| Oo (fun h0 e0 => ha h0 (e0.trans kr)) <| Og 2 <| On <| Hf KS (Sm 201 (lS (.v (.sl fl (TH.map e111)))) (P5 r s p dl db (.osl (G.length + 5) 0 (TN ++ [TH]).length false) G')) ?_
   exact hQ _ G' (fun _ => hz) (hk (fun _ x y e => by cases e) hL) (hk (fun e => by cases e) hB) (by unfold ownN; rw [← hb, hf]; exact hN')
 refine Hs <| Hs ?_
 cases h1 : (r.fKn == 1) with
 | true =>
  refine Hr hxn <| Og 2 <| Oo (fun h0 e0 => bo h0 .eql r.fKn 1 true (by rw [eqD2, h1])) <| Og 11 <| On ?_
  exact body (eq48 p r.fPr) _ (by unfold ownB; rw [h1]; rfl) kr kr
 | false =>
  cases h3 : (r.fKn == 3) with
  | true =>
   refine Hr hxn <| Og 2 <| Oo (fun h0 e0 => bo h0 .eql r.fKn 1 false (by rw [eqD2, h1])) <| Og 3 <| Oo (fun h0 e0 => bo h0 .eql r.fKn 3 true (by rw [eqD2, h3])) <| Og 7 <| On ?_
   exact body (eq48 p r.fPr) _ (by unfold ownB; rw [h1, h3]; rfl) kr kr
  | false =>
   refine Hr hxn <| Og 2 <| Oo (fun h0 e0 => bo h0 .eql r.fKn 1 false (by rw [eqD2, h1])) <| Og 3 <| Oo (fun h0 e0 => bo h0 .eql r.fKn 3 false (by rw [eqD2, h3])) <| Og 7 <| On ?_
   exact body false _ (by unfold ownB; rw [h1, h3]; rfl) kr kr
end Go.Abs.Tw
