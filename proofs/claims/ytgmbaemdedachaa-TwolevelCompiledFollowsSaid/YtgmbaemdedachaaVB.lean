import Derived.Test.YtgmbaemdedachaaUX
namespace Go.Abs.Ty
open Go.Sort Go.Proofs Go.Abs.Ta Go.Abs.Tb Go.Abs.Tc Go.Abs.Td Go.Abs.Te Go.Abs.Tf Go.Abs.Tg Go.Abs.Th Go.Abs.Ts Go.Abs.Tw
set_option linter.unusedVariables false
set_option linter.unusedSimpArgs false
set_option linter.unnecessarySimpa false
set_option maxRecDepth 100000
set_option maxHeartbeats 4000000
def okF (f : S29) : Bool := (f.fCo == 0) && ((f.fIx == 0) && true)
def compL (m : Nat) (ps : List S48) : List S57 → S27 → S29 → Option (S27 × S29)
 | [], M, f => some (M, f)
 | r :: rs, M, f => if okF f then (match f28 m r ps with
   | none => none
   | some (X, g) => if okF g then (match f29 m M X ps.length with
     | none => none
     | some (M', g') => compL m ps rs M' g') else compL m ps rs M g)
  else some (⟨0, [], []⟩, f)
def outA (ps : List S48) : List S52 → Option (List S52)
 | [] => some []
 | a :: r => match idx ps (w64 (a.fIn - 1)), outA ps r with
  | some p, some r' => some (⟨a.fFr, a.fTo, p.fLx, p.fSf, a.fWt⟩ :: r')
  | _, _ => none
def outM (ps : List S48) (M : S27) (f : S29) : Option (S27 × S29) := if okF f then (match outA ps M.fAs with
  | none => none
  | some A => if M.fAs.length < 100000000 then some (⟨M.fSt, A, M.fFn⟩, ⟨0, 0⟩) else none)
 else some (⟨0, [], []⟩, f)
def f7c (m : Nat) (rules : List S57) (ps : List S48) : Option (S27 × S29) := match f24 1000000 rules with
 | none => none
 | some g => if okF g then (match f25 1000000 ps 300 true with
   | none => none
   | some g2 => if okF g2 then (if ps.length ≤ 300 ∧ rules.length ≤ 1000 then (match f47 m (numL ps.length) [List.replicate ps.length 0] [true] with
      | none => none
      | some (M, f) => match compL m ps rules M f with
       | none => none
       | some (M', f') => outM ps M' f') else none)
    else some (⟨0, [], []⟩, g2))
  else some (⟨0, [], []⟩, g)
def Zo (X : Cx) (ops : List Oper) (i : Nat) (σ : St) (Q : St → Prop) : Prop := ∃ σ', zops X.E X.Γ ops (ops.drop i) σ = some σ' ∧ Q σ'
section
variable {X : Cx} {ops : List Oper} {σ : St} {Q : St → Prop}
theorem Zo.done {i : Nat} (hi : ops.drop i = []) (h : Q σ) : Zo X ops i σ Q := ⟨σ, by rw [hi]; rfl, h⟩
theorem drop_of {i : Nat} {o : Oper} (ho : ops[i]? = some o) : ops.drop i = o :: ops.drop (i + 1) := by
 have hlt := yE ho
 rw [zI hlt]
 rw [zA hlt] at ho
 rw [zC ho]
theorem Zo.seg : ∀ (k : Nat) {i : Nat} {σ : St} (j : Nat) (hj : i + k = j) (σ1 : St) (h1 : aseg X ops k i σ = some σ1) (h : Zo X ops j σ1 Q), Zo X ops i σ Q
 | 0, i, σ, j, hj, σ1, h1, h => by
  simp only [aseg, Option.some.injEq] at h1
  subst h1
  simp only [Nat.add_zero] at hj
  subst hj
  exact h
 | k + 1, i, σ, j, hj, σ1, h1, h => by
  simp only [aseg] at h1
  split at h1
  ·rename_i o ho
   split at h1
   ·rename_i σ2 h2
    obtain ⟨σ3, h3, h4⟩ := Zo.seg k j om σ1 h1 h
    exact ⟨σ3, by rw [drop_of ho]; simp only [zops, h2, h3], h4⟩
   ·cases h1
  ·cases h1
theorem Zo.seg' {i : Nat} (k j : Nat) (e : (i + k == j && (aseg X ops k i σ).isSome) = true) (h : Zo X ops j (asegD X ops k i σ) Q) : Zo X ops i σ Q := by
 simp only [Bool.and_eq_true, beq_iff_eq] at e
 obtain ⟨σ1, h1⟩ := Option.isSome_iff_exists.1 e.2
 refine Zo.seg k j e.1 σ1 h1 ?_
 unfold asegD at h
 rw [h1] at h
 exact h
theorem Zo.one' {i : Nat} {r : List AObj → Option (D × List AObj)} {d : List AObj → D} {h' : List AObj → List AObj} (j : Nat) (H : ∀ h, h = σ.heap → r h = some (d h, h' h)) (hj : (i + 1 == j) = true) (h1 : effAt X ops i σ = r σ.heap)
  (h : Zo X ops j (putAt ops i σ (d σ.heap) (h' σ.heap)) Q) : Zo X ops i σ Q := by
 have h2 := H _ rfl
 rw [← h1] at h2
 refine Zo.seg 1 j (by simpa using hj) (putAt ops i σ (d σ.heap) (h' σ.heap)) ?_ h
 unfold effAt at h2
 unfold putAt
 simp only [aseg]
 split at h2
 ·rename_i o ho
  simp only [ho, aop, h2]
 ·cases h2
theorem Zo.st {i : Nat} (σ1 : St) (e : σ = σ1) (h : Zo X ops i σ1 Q) : Zo X ops i σ Q := by rw [e]; exact h
theorem Zo.lets {i : Nat} (σ2 : St) (j : Nat) (o : Oper) (ho : ops[i]? = some o) (hn : (aop X.E X.Γ ops o σ).isNone = true) (hl : letS o σ = σ2) (e : (i + 1 == j && (aseg X ops 1 i σ2).isSome) = true) (h : Zo X ops j (asegD X ops 1 i σ2) Q) : Zo X ops i σ Q := by
 simp only [Bool.and_eq_true, beq_iff_eq] at e
 obtain ⟨e1, e2⟩ := e
 subst e1
 obtain ⟨σ3, h3⟩ := Option.isSome_iff_exists.1 e2
 unfold asegD at h
 rw [h3] at h
 obtain ⟨σ4, h4, h5⟩ := h
 simp only [aseg, ho] at h3
 have hn := Option.isNone_iff_eq_none.1 hn
 split at h3
 ·rename_i σ5 h6
  cases h3
  exact ⟨σ4, by rw [drop_of ho]; simp only [zops, hn, hl, h6, Option.getD_some] at h4 ⊢; exact h4, h5⟩
 ·cases h3
end
theorem letAt_eq {σ : St} {t r k : Nat} {es : List V} (ht : σ.tmps[t]? = some (.osl r 0 es.length false)) (hr : σ.heap[r]? = some (.row k es)) : letAt σ t = ⟨σ.tmps.set t (.v (.sl .plain es)), σ.heap.set r .dead⟩ := by
 have hlt := yE hr
 have hf : Abs.frz ((List.replicate σ.heap.length .dead).set r (.row k es)) 3 (.osl r 0 es.length false) = some (.sl .plain es) := by
  simp only [Abs.frz]
  rw [zQ (by simpa using hlt)]
  simp
 unfold letAt
 rw [ht]
 dsimp only
 rw [hr]
 dsimp only
 rw [hf]
def plainR : Code → Bool
 | .region _ _ d => !d
 | _ => false
theorem Ht.zreg {DR : Prop} {P : Program} {X : Cx} {c : Code} {σ : St} {Q : Post} (H : Hx DR P X) (hc : plainR c = true) (h : Zo X (opl c) 0 σ (Q .normal)) : Ht DR P c σ Q := by
 cases c <;> first | (cases hc; done) | skip
 rename_i p ops d
 cases d
 ·obtain ⟨σ', h1, h2⟩ := h
  exact Ht.zregion H.types H.calls h1 h2
 ·cases hc
theorem mkI' {h : List AObj} {N : Nat} (hN : N ≤ 20000) : makeSliceD TM 62 h (dI N) (dI N) = some (.osl h.length 0 ((List.replicate N (0 : Int)).map eI).length false, h ++ [.row 1 ((List.replicate N (0 : Int)).map eI)]) := by
 rw [mkI hN]
 simp
set_option maxHeartbeats 4000000
noncomputable def C7 : Code := bodyOf Try.prog 7
noncomputable abbrev E7 : Code := cR (cR (cR (cR (cR C7))))
noncomputable abbrev LE7 : Code := cL E7
noncomputable abbrev BE7 : Code := cL (cL (cR LE7))
noncomputable abbrev IB7 : Code := cL (cL (cR (cR BE7)))
def Fin7 (o : S27 × S29) : Post := fun e σ => (e = .normal ∨ e = .ret) ∧ ∃ d, resultsD TM σ (resOf Try.prog 7) = some d ∧ Abs.frz σ.heap 6 d = some (.tuple [e27 o.1, e29 o.2])
abbrev w29 (f : S29) : AObj := .cells [dI f.fCo, dI f.fIx]
abbrev P7 (M : S27) (f : S29) (G : List AObj) : List AObj := z28 :: z30 :: w29 ⟨0, 0⟩ :: w29 ⟨0, 0⟩ :: AObj.dead :: w27 M :: w29 f :: G
abbrev lV (ps : List S48) : List (Nat × D) := [(1, dP e48 ps), (4, .ptr 0 0), (5, .ptr 1 0), (8, dP eI (numL ps.length)), (9, .ptr 5 0), (10, .ptr 6 0)]
abbrev KV : List Nat := [1, 4, 5, 8, 9, 10]
abbrev lQ (rules : List S57) (ps : List S48) (i : Int) : List (Nat × D) := (45, dP e57 rules) :: (46, dI rules.length) :: (47, dI i) :: lV ps
abbrev KQ : List Nat := 45 :: 46 :: 47 :: KV
theorem neF (f : S29) (h : List AObj) : (binD TM .neq 30 (D.unt (.v (e29 f))) (D.unt (.v (.agg [vI 0, vI 0])))).map (·, h) = some (dB (!okF f), h) := rfl
theorem eqF (f : S29) (h : List AObj) : (binD TM .eql 30 (D.unt (.v (e29 f))) (D.unt (.v (.agg [vI 0, vI 0])))).map (·, h) = some (dB (okF f), h) := rfl
variable {G : List AObj} {M : S27} {Q : Post} {f : S29} {goal : S27 × S29} {m : Nat} {ps : List S48} {rules : List S57}
theorem rule7 {rest : List S57} {r : S57} (hr : RuOk r) (hps : ps.length ≤ 300) {i : Nat} (hx : rules[i]? = some r) (hg : compL m ps (r :: rest) M f = some goal)
  (hE : ∀ f σ, goal = (⟨0, [], []⟩, f) → okF f = false → Fin7 (⟨0, [], []⟩, f) .ret σ → Q .ret σ)
  (hQ : ∀ M f G σ, compL m ps rest M f = some goal → Abs.forget KQ σ = Sm 111 (lQ rules ps i) (P7 M f G) → Q .normal σ) :
  HT IB7 (Sm 111 (lQ rules ps i) (P7 M f G)) Q := by
 have hxn := hxM 1000010
 have ix : idx rules (i : Int) = some r := by rw [idx_get]; exact hx
 have hg : (if okF f then (match f28 m r ps with
   | none => none
   | some (X, g) => if okF g then (match f29 m M X ps.length with
     | none => none
     | some (M', g') => compL m ps rest M' g') else compL m ps rest M g)
  else some (⟨0, [], []⟩, f)) = some goal := hg
 refine Hs <| Hr hxn <| Oo (fun h0 e0 => xr h0 22 58 4 e57 rules i r ix) <| Og 2 <| Oo (fun h0 e0 => sq ti58 (G.length + 7) 0 [dI 0, dI 0, dI 0, .v nilS] [dI r.fKn, dI r.fPr.fLx, dI r.fPr.fSf, dP e72 r.fCx] (.v (e57 r)) (Hw (g := P7 M f (G ++ [AObj.cells [dI 0, dI 0, dI 0, .v nilS]])) e0 (mid_get G _ []))) <| On <| Hf (12 :: KQ) (Sm 111 ((12, .ptr (G.length + 7) 0) :: lQ rules ps i) (P7 M f ((G ++ [AObj.cells [dI 0, dI 0, dI 0, .v nilS]]).set G.length (w57 r)))) ?_
 rw [mid_set G _ _ []]
 have gr : (G ++ [w57 r])[G.length]? = some (w57 r) := mid_get G _ []
 generalize G.length = v at gr ⊢
 generalize G ++ [w57 r] = G at gr ⊢
 refine Hs <| Hs ?_
 cases hf : okF f with
 | false =>
  rw [hf] at hg
  simp only [Bool.false_eq_true, if_false, Option.some.injEq] at hg
  refine Hr hxn <| Og 2 <| Oo (fun h0 e0 => (show (binD TM .neq 30 (D.unt (.v (e29 f))) (D.unt (.v (.agg [vI 0, vI 0])))).map (·, h0) = some (dB true, h0) by rw [neF, hf]; rfl)) <| On <| Hy <| Hs <| HF hxn <| Og 4 <| On <| Ht.ret kr <| seqH.r ?_
  exact hE f _ hg.symm hf ⟨.inr rfl, resC (a := 4) (b := 5) (r := 0) (s := 1) (cs := [dI 0, .v nilS, .v nilS]) (x := f.fCo) (y := f.fIx) kr kr kr kr kr rfl (fl_zero _)⟩
 | true =>
 rw [hf, if_pos rfl] at hg
 rcases h28 : f28 m r ps with _ | ⟨X, g⟩
 ·rw [h28] at hg; cases hg
 rw [h28] at hg
 dsimp only at hg
 have hx28 := hxP false 1000010 is28 (call28 m hr hps h28)
 refine Hr hxn <| Og 2 <| Oo (fun h0 e0 => (show (binD TM .neq 30 (D.unt (.v (e29 f))) (D.unt (.v (.agg [vI 0, vI 0])))).map (·, h0) = some (dB false, h0) by rw [neF, hf]; rfl)) <| On <| Hz <| Hk <| seqH.n <| Hs <| Hr hxn <| Og 1 <| On <| Hf (12 :: 13 :: KQ) (Sm 111 ((12, .ptr (v + 7) 0) :: (13, .ptr (G.length + 7) 0) :: lQ rules ps i) (P7 M f (G ++ [z28]))) ?_
 have gm : (G ++ [z28])[G.length]? = some z28 := mid_get G _ []
 have gr := app_keep (l := [z28]) gr
 refine Hs <| Hr hx28 <| Oo (fun h0 e0 => lq ti58 (v + 7) 0 [dI r.fKn, dI r.fPr.fLx, dI r.fPr.fSf, dP e72 r.fCx] (.v (e57 r)) (Hw (g := P7 M f (G ++ [z28])) e0 gr)) <| Og 1 <| Oo (fun h0 e0 => callP (row := false) (n := 1000010) (f0 := 28) (ds0 := [.v (e57 r), dP e48 ps]) (ds := [.v (e57 r), dP e48 ps]) (h := h0) (r := .tuple [e27 X, e29 g]) rfl rfl rfl) <| Og 3 <| Oo (fun h0 e0 => sq ti28 (G.length + 7) 0 [dI 0, .v nilS, .v nilS] (mCs X) (.v (e27 X)) (Hw (g := P7 M f (G ++ [z28])) e0 gm)) <| Og 1 <| On <| Hf (13 :: KQ) (Sm 111 ((13, .ptr (G.length + 7) 0) :: lQ rules ps i) (P7 M g ((G ++ [z28]).set G.length (w27 X)))) ?_
 rw [mid_set G _ _ []]
 have gm : (G ++ [w27 X])[G.length]? = some (w27 X) := mid_get G _ []
 clear gr
 generalize G.length = v at gm ⊢
 generalize G ++ [w27 X] = G at gm ⊢
 refine Hs ?_
 cases hgo : okF g with
 | false =>
  rw [hgo] at hg
  simp only [Bool.false_eq_true, if_false] at hg
  refine Hr hxn <| Og 2 <| Oo (fun h0 e0 => (show (binD TM .eql 30 (D.unt (.v (e29 g))) (D.unt (.v (.agg [vI 0, vI 0])))).map (·, h0) = some (dB false, h0) by rw [eqF, hgo])) <| On <| Hz <| Hk ?_
  exact hQ M g G _ hg kr
 | true =>
  rw [hgo, if_pos rfl] at hg
  rcases h29 : f29 m M X ps.length with _ | ⟨M', g'⟩
  ·rw [h29] at hg; cases hg
  rw [h29] at hg
  dsimp only at hg
  have hx29 := hxP false 1000010 is29 (call29 m hps h29)
  refine Hr hxn <| Og 2 <| Oo (fun h0 e0 => (show (binD TM .eql 30 (D.unt (.v (e29 g))) (D.unt (.v (.agg [vI 0, vI 0])))).map (·, h0) = some (dB true, h0) by rw [eqF, hgo])) <| On <| Hy <| Hr hx29 <| Og 1 <| Oo (fun h0 e0 => lq ti28 (v + 7) 0 (mCs X) (.v (e27 X)) (Hw (g := P7 M g G) e0 gm)) <| Og 1 <| Oo (fun h0 e0 => callP (row := false) (n := 1000010) (f0 := 29) (ds0 := [.v (e27 M), .v (e27 X), dP eI (numL ps.length)]) (ds := [.v (e27 M), .v (e27 X), dP eI (numL ps.length)]) (h := h0) (r := .tuple [e27 M', e29 g']) rfl rfl rfl) <| Og 5 <| Od ?_
  exact hQ M' g' G _ hg kr
theorem rules7 (hru : ∀ r ∈ rules, RuOk r) (hps : ps.length ≤ 300) (hrl : rules.length ≤ 1000) (hg : compL m ps rules M f = some goal)
  (hE : ∀ f σ, goal = (⟨0, [], []⟩, f) → okF f = false → Fin7 (⟨0, [], []⟩, f) .ret σ → Q .ret σ)
  (hQ : ∀ G σ, Abs.forget KV σ = Sm 111 (lV ps) (P7 goal.1 goal.2 G) → Q .normal σ) :
  HT LE7 (Sm 111 ((0, dP e57 rules) :: lV ps) (P7 M f G)) Q := by
 have hxn := hxM 1000010
 refine Hs <| Hr hxn <| Og 1 <| Oo (fun h0 e0 => lr h0 22 58 e57 rules) <| Og 1 <| On <| Hb 0 <| Ht.gen fun Q' hQ' => ?_
 replace hQ := fun G σ h1 => hQ' _ _ (blkH.x (id := 0) (hQ G σ h1))
 replace hE := fun f σ h1 h2 h3 => hQ' _ _ (blkH.r (id := 0) (hE f σ h1 h2 h3))
 clear hQ'
 refine Ht.loop (fun z σ => ∃ (i : Nat) (M : S27) (f : S29) (G : List AObj), i + z = rules.length ∧ compL m ps (rules.drop i) M f = some goal ∧ Abs.forget KQ σ = Sm 111 (lQ rules ps i) (P7 M f G)) rules.length kr
  ⟨0, M, f, G, om, hg, kr⟩ ?_
 clear hg
 rintro z σ ⟨i, M, f, G, hz, hg, hσ⟩
 refine Hg KQ hσ ?_
 clear hσ
 refine Hs <| Hr hxn <| Og 1 <| On <| Hs <| Hd ((i : Int) < (rules.length : Int)) (fun hc => ?_) (fun hc => ?_)
 case refine_2 =>
  have hi : i = rules.length := by omega
  rw [hi, List.drop_length] at hg
  cases hg
  refine Ht.exit (id := 0) kr ?_
  exact hQ G _ kr
 have hlt : i < rules.length := by omega
 rw [zI hlt] at hg
 have hx : rules[i]? = some rules[i] := zA hlt
 have hmem := List.getElem_mem hlt
 generalize rules[i] = r at hg hx hmem
 refine Hk <| seqH.n <| Hs <| Hb 1 <| Hf KQ (Sm 111 (lQ rules ps i) (P7 M f G)) <| rule7 (hru r hmem) hps hx hg (fun f σ h1 h2 h3 => ?_) (fun M f G σ hg hσ => ?_)
 ·refine blkH.r <| seqH.r ?_
  exact hE f σ h1 h2 h3
 ·refine blkH.n <| seqH.n <| Hg KQ hσ <| Hr hxn <| Og 2 <| Od <| ⟨z - 1, om, i + 1, M, f, G, om, hg, ?_⟩
  rw [← w64_nat om]
  kernel_rfl
set_option maxHeartbeats 4000000
noncomputable abbrev F7 : Code := cR E7
noncomputable abbrev H7 : Code := cR (cR F7)
noncomputable abbrev LH7 : Code := cL H7
noncomputable abbrev BH7 : Code := cL (cL (cR LH7))
noncomputable abbrev IH7 : Code := cL (cL (cR (cR BH7)))
structure ZI (M : S27) (H : List AObj) (ro : Nat) (ga : AG) (qa : Nat) (A : List S52) : Prop where
 g0 : H[0]? = some z28
 g1 : H[1]? = some z30
 m : H[ro]? = some (.cells [dI M.fSt, AG.d ga qa (A.map e52), dP e54 M.fFn])
 r2 : 2 ≤ ro
 a : H[qa]? = some (AG.o ga 5 (A.map e52))
theorem ZI.app {M : S27} {H : List AObj} {ro : Nat} {ga : AG} {qa : Nat} {A : List S52} (h : ZI M H ro ga qa A) (l : List AObj) : ZI M (H ++ l) ro ga qa A := ⟨app_keep h.g0, app_keep h.g1, app_keep h.m, h.r2, app_keep h.a⟩
variable {A : List S52} {M : S27} {ga : AG} {qa ro : Nat}
theorem ZI.arc {H : List AObj} (h : ZI M H ro ga qa A) (x : S52) (ga' : AG) :
  ZI M ((H.set qa .dead ++ [AG.o ga' 5 ((A ++ [x]).map e52)]).set ro (.cells [dI M.fSt, AG.d ga' H.length ((A ++ [x]).map e52), dP e54 M.fFn])) ro ga' H.length (A ++ [x]) := by
 have hr2 := h.r2
 have hl := yE h.m
 exact ⟨set_keep om (app_keep (keepO h.a h.g0 rfl)), set_keep om (app_keep (keepO h.a h.g1 rfl)), set_new (app_keep (keepO h.a h.m rfl)), h.r2, set_keep om (end_get _ _ _)⟩
abbrev lA (M : S27) (ps : List S48) (ro : Nat) (k : Int) : List (Nat × D) := [(1, dP e48 ps), (4, .ptr 0 0), (5, .ptr 1 0), (14, .ptr ro 0), (84, dP e52 M.fAs), (85, dI M.fAs.length), (86, dI k)]
abbrev KA : List Nat := [1, 4, 5, 14, 84, 85, 86]
theorem cells_len {a b : List D} (h : some (AObj.cells a) = some (AObj.cells b)) : a.length = b.length := by cases h; rfl
theorem canonS_id {L0 : Nat} {σ : St} (h : σ.heap.length ≤ L0) : canonS L0 σ = σ := by
 unfold canonS
 rw [show σ.heap.length - L0 - 1 = 0 by omega]
 rfl
theorem subD (a b : Int) (h : List AObj) : (binD TM .sub 3 (D.unt (dI a)) (D.unt (dI b))).map (·, h) = some (dI (w64 (a - b)), h) := rfl
noncomputable abbrev O7 : Array Oper := opsOf (cL (cR (cR IH7)))
noncomputable abbrev o7 (i : Nat) : Oper := O7.getD i default
variable {G : List AObj} {Q : Post} {a : S52} {k : Nat} {p : S48} {ps : List S48}
theorem pair7 {g u : Nat} (gp : G[u]? = some (w48 p)) (gx : G[g]? = some (.cells [dI a.fFr, dI a.fTo, dI a.fIn, dI a.fOut, dI a.fWt])) (hne : g ≠ u)
  (hQ : ∀ σ, Abs.forget (16 :: KA) σ = Sm 111 ((16, .ptr g 0) :: lA M ps ro k) ((G.set g (.cells [dI a.fFr, dI a.fTo, dI p.fLx, dI a.fOut, dI a.fWt])).set g (.cells [dI a.fFr, dI a.fTo, dI p.fLx, dI p.fSf, dI a.fWt])) → HT (cR (cR (cR IH7))) σ Q) :
  HT (cL (cR (cR IH7))) (Sm 111 ((16, .ptr g 0) :: (17, .ptr u 0) :: lA M ps ro k) G) (SH (cR (cR (cR IH7))) Q) := by
 let S (l : List (Nat × D)) (h : List AObj) : St := Sm 111 ((16, .ptr g 0) :: (17, .ptr u 0) :: lA M ps ro k ++ ([(96, .ptr u 0), (98, .ptr u 1)] ++ l)) h
 let w : List (Nat × D) := [(97, dI p.fLx), (99, dI p.fSf), (100, .ptr g 2), (101, .ptr g 3)]
 let G1 : List AObj := G.set g (.cells [dI a.fFr, dI a.fTo, dI p.fLx, dI a.fOut, dI a.fWt])
 let G2 : List AObj := G1.set g (.cells [dI a.fFr, dI a.fTo, dI p.fLx, dI p.fSf, dI a.fWt])
 have gp1 : G1[u]? = some (w48 p) := set_keep hne gp
 have gx1 : G1[g]? = some (.cells [dI a.fFr, dI a.fTo, dI p.fLx, dI a.fOut, dI a.fWt]) := set_new gx
 have hl1 : G1.length = G.length := zP
 have hl2 : G2.length = G.length := by show (G1.set g _).length = _; rw [zP, hl1]
 refine Ht.allO (σ1 := S w G2) (hxM 1000010) kr ?_ (seqH.n (hQ _ kr))
 show AllO (XM 1000010).E (XM 1000010).Γ O7 G.length _ 8 _ _
 have put : ∀ (o : Oper) (σ : St) (d : D) (h' : List AObj), aeff (XM 1000010).E (XM 1000010).Γ O7.toList o σ = some (d, h') → aop (XM 1000010).E (XM 1000010).Γ O7.toList o σ = some (σ.put o.dst d h') := fun o σ d h' e => by unfold aop; rw [e]
 refine AllO.first 0 (o7 0) (Sm 111 ((16, .ptr g 0) :: (17, .ptr u 0) :: lA M ps ro k ++ [(96, .ptr u 0)]) G) kr kr kr <| AllO.first 2 (o7 2) (Sm 111 ((16, .ptr g 0) :: (17, .ptr u 0) :: lA M ps ro k ++ [(96, .ptr u 0), (98, .ptr u 1)]) G) kr kr kr <| AllO.first 1 (o7 1) (S [(97, dI p.fLx)] G) kr kr (Eq.trans (put _ _ _ _ ((show aeff (XM 1000010).E (XM 1000010).Γ O7.toList (o7 1) (S [] G) = (loadD ti3 G (.ptr u 0)).map (·, G) by kernel_rfl).trans (lq ti3 u 0 [dI p.fLx, dI p.fSf] (dI p.fLx) gp))) kr) ?_
 have a3 : ∀ (l : List (Nat × D)) (H : List AObj), H[u]? = some (w48 p) → aop (XM 1000010).E (XM 1000010).Γ O7.toList (o7 3) (S l H) = some ((S l H).put (o7 3).dst (dI p.fSf) H) := fun l H h => put _ _ _ _ ((show aeff (XM 1000010).E (XM 1000010).Γ O7.toList (o7 3) (S l H) = (loadD ti3 H (.ptr u 1)).map (·, H) by kernel_rfl).trans (lq ti3 u 1 [dI p.fLx, dI p.fSf] (dI p.fSf) h))
 have st5 : (storeD ti3 G (.ptr g 2) (dI p.fLx)).map (U, ·) = some (U, G1) := sq ti3 g 2 [dI a.fFr, dI a.fTo, dI a.fIn, dI a.fOut, dI a.fWt] [dI a.fFr, dI a.fTo, dI p.fLx, dI a.fOut, dI a.fWt] (dI p.fLx) gx
 have a7 : aop (XM 1000010).E (XM 1000010).Γ O7.toList (o7 7) (S w G1) = some (S w G2) := Eq.trans (put _ _ _ _ ((show aeff (XM 1000010).E (XM 1000010).Γ O7.toList (o7 7) (S w G1) = (storeD ti3 G1 (.ptr g 3) (dI p.fSf)).map (U, ·) by kernel_rfl).trans (sq ti3 g 3 [dI a.fFr, dI a.fTo, dI p.fLx, dI a.fOut, dI a.fWt] [dI a.fFr, dI a.fTo, dI p.fLx, dI p.fSf, dI a.fWt] (dI p.fSf) gx1))) kr
 have fin : canonS G.length (S w G2) = S w G2 := canonS_id (by show G2.length ≤ _; omega)
 let v4 : List (Nat × D) := [(97, dI p.fLx), (100, .ptr g 2)]
 let v3 : List (Nat × D) := [(97, dI p.fLx), (99, dI p.fSf), (100, .ptr g 2)]
 refine AllO.first 4 (o7 4) (S v4 G) kr kr kr ?_
 have b3 : aop (XM 1000010).E (XM 1000010).Γ O7.toList (o7 3) (S v4 G) = some (S v3 G) := (a3 v4 G gp).trans kr
 have b5 : aop (XM 1000010).E (XM 1000010).Γ O7.toList (o7 5) (S v4 G) = some (S v4 G1) := Eq.trans (put _ _ _ _ ((show aeff (XM 1000010).E (XM 1000010).Γ O7.toList (o7 5) (S v4 G) = (storeD ti3 G (.ptr g 2) (dI p.fLx)).map (U, ·) by kernel_rfl).trans st5)) kr
 have b5' : aop (XM 1000010).E (XM 1000010).Γ O7.toList (o7 5) (S v3 G) = some (S v3 G1) := Eq.trans (put _ _ _ _ ((show aeff (XM 1000010).E (XM 1000010).Γ O7.toList (o7 5) (S v3 G) = (storeD ti3 G (.ptr g 2) (dI p.fLx)).map (U, ·) by kernel_rfl).trans st5)) kr
 have b3' : aop (XM 1000010).E (XM 1000010).Γ O7.toList (o7 3) (S v4 G1) = some (S v3 G1) := (a3 v4 G1 gp1).trans kr
 refine AllO.two 3 5 (o7 3) (o7 5) _ _ kr kr kr b3 b5 ?_ ?_
 ·refine AllO.one 5 (o7 5) _ kr kr b5' <| AllO.one 6 (o7 6) (S w G1) kr kr kr <| AllO.one 7 (o7 7) _ kr kr a7 ?_
  exact AllO.fin kr fin
 ·refine AllO.one 3 (o7 3) _ kr kr b3' <| AllO.one 6 (o7 6) (S w G1) kr kr kr <| AllO.one 7 (o7 7) _ kr kr a7 ?_
  exact AllO.fin kr fin
theorem arc7 (ha : M.fAs[k]? = some a) (hp : idx ps (w64 (a.fIn - 1)) = some p) (hA : A.length < 100000000) (hI : ZI M G ro ga qa A)
  (hQ : ∀ ga qa G σ, ZI M G ro ga qa (A ++ [⟨a.fFr, a.fTo, p.fLx, p.fSf, a.fWt⟩]) → Abs.forget KA σ = Sm 111 (lA M ps ro k) G → Q .normal σ) :
  HT IH7 (Sm 111 (lA M ps ro k) G) Q := by
 have hxn := hxM 1000010
 have ix : idx M.fAs (k : Int) = some a := by rw [idx_get]; exact ha
 refine Hs <| Hr hxn <| Oo (fun h0 e0 => xr h0 25 53 5 e52 M.fAs k a ix) <| Og 2 <| Oo (fun h0 e0 => sq ti53 G.length 0 [dI 0, dI 0, dI 0, dI 0, dI 0] [dI a.fFr, dI a.fTo, dI a.fIn, dI a.fOut, dI a.fWt] (.v (e52 a)) (Hw (g := G ++ [AObj.cells [dI 0, dI 0, dI 0, dI 0, dI 0]]) e0 (mid_get G _ []))) <| On <| Hf (16 :: KA) (Sm 111 ((16, .ptr G.length 0) :: lA M ps ro k) ((G ++ [AObj.cells [dI 0, dI 0, dI 0, dI 0, dI 0]]).set G.length (.cells [dI a.fFr, dI a.fTo, dI a.fIn, dI a.fOut, dI a.fWt]))) ?_
 rw [mid_set G _ _ []]
 have gx : (G ++ [AObj.cells [dI a.fFr, dI a.fTo, dI a.fIn, dI a.fOut, dI a.fWt]])[G.length]? = some (.cells [dI a.fFr, dI a.fTo, dI a.fIn, dI a.fOut, dI a.fWt]) := mid_get G _ []
 have hI := hI.app [.cells [dI a.fFr, dI a.fTo, dI a.fIn, dI a.fOut, dI a.fWt]]
 have hxro : ro < G.length ∨ ro = G.length := by
  have := yE hI.m
  rw [List.length_append, List.length_singleton] at this
  omega
 have hxro : ro ≠ G.length := fun e => by
  have h1 := hI.m
  rw [e, gx] at h1
  have := cells_len h1
  simp at this
 have hxqa : qa ≠ G.length := fun e => by
  have h1 := hI.a
  rw [e, gx] at h1
  exact o_cells (zC h1).symm
 have hxg : 2 ≤ G.length := by
  have := yE hI.m
  have := hI.r2
  rw [List.length_append, List.length_singleton] at *
  omega
 generalize G.length = g at gx hxro hxqa hxg ⊢
 generalize G ++ [AObj.cells [dI a.fFr, dI a.fTo, dI a.fIn, dI a.fOut, dI a.fWt]] = G at gx hI ⊢
 refine Hs <| Hr hxn <| Og 2 <| Oo (fun h0 e0 => lq ti3 g 2 [dI a.fFr, dI a.fTo, dI a.fIn, dI a.fOut, dI a.fWt] (dI a.fIn) (Hw e0 gx)) <| Oo (fun h0 e0 => subD a.fIn 1 h0) <| Oo (fun h0 e0 => xr h0 23 49 2 e48 ps (w64 (a.fIn - 1)) p hp) <| Og 2 <| Oo (fun h0 e0 => sq ti49 G.length 0 [dI 0, dI 0] [dI p.fLx, dI p.fSf] (.v (e48 p)) (Hw (g := G ++ [AObj.cells [dI 0, dI 0]]) e0 (mid_get G _ []))) <| On <| Hf (16 :: 17 :: KA) (Sm 111 ((16, .ptr g 0) :: (17, .ptr G.length 0) :: lA M ps ro k) ((G ++ [AObj.cells [dI 0, dI 0]]).set G.length (w48 p))) ?_
 rw [mid_set G _ _ []]
 have gp : (G ++ [w48 p])[G.length]? = some (w48 p) := mid_get G _ []
 have gx := app_keep (l := [w48 p]) gx
 have hI := hI.app [w48 p]
 have hgp : g ≠ G.length := fun e => by
  rw [e, gp] at gx
  have := cells_len gx
  simp at this
 generalize G.length = u at gp hgp ⊢
 generalize G ++ [w48 p] = G at gx gp hI ⊢
 refine Hs <| pair7 gp gx hgp fun σ hσ => ?_
 refine Hg (16 :: KA) hσ ?_
 rw [List.set_set]
 have hI : ZI M (G.set g (.cells [dI a.fFr, dI a.fTo, dI p.fLx, dI p.fSf, dI a.fWt])) ro ga qa A := ⟨set_keep om hI.g0, set_keep om hI.g1, set_keep (Ne.symm hxro) hI.m, hI.r2, set_keep (Ne.symm hxqa) hI.a⟩
 have gx := set_new (x := .cells [dI a.fFr, dI a.fTo, dI p.fLx, dI p.fSf, dI a.fWt]) gx
 generalize G.set g (.cells [dI a.fFr, dI a.fTo, dI p.fLx, dI p.fSf, dI a.fWt]) = G at gx hI ⊢
 have happ : app ti53.bytes A [(⟨a.fFr, a.fTo, p.fLx, p.fSf, a.fWt⟩ : S52)] = some (A ++ [⟨a.fFr, a.fTo, p.fLx, p.fSf, a.fWt⟩]) := Tg.app_ok (by decide) om
 have hro : (G.set qa .dead ++ [AG.o (ga.app [e52 ⟨a.fFr, a.fTo, p.fLx, p.fSf, a.fWt⟩]) 5 ((A ++ [(⟨a.fFr, a.fTo, p.fLx, p.fSf, a.fWt⟩ : S52)]).map e52)])[ro]? = some (.cells [dI M.fSt, AG.d ga qa (A.map e52), dP e54 M.fFn]) :=
  app_keep (keepO hI.a hI.m rfl)
 refine Hr hxn <| Og 1 <| Oo (fun h0 e0 => lq ti25 ro 1 [dI M.fSt, AG.d ga qa (A.map e52), dP e54 M.fFn] (AG.d ga qa (A.map e52)) (Hw e0 hI.m)) <| Oo (fun h0 e0 => lq ti53 g 0 [dI a.fFr, dI a.fTo, dI p.fLx, dI p.fSf, dI a.fWt] (.v (e52 ⟨a.fFr, a.fTo, p.fLx, p.fSf, a.fWt⟩)) (Hw e0 gx)) <| Og 1 <| Oo (fun h0 e0 => app_g (T := TM) h0 25 53 qa 5 ti53 ga .nonfull e52 A [⟨a.fFr, a.fTo, p.fLx, p.fSf, a.fWt⟩] (A ++ [⟨a.fFr, a.fTo, p.fLx, p.fSf, a.fWt⟩]) happ kr kr kr kr (fun _ => rfl) (Hw e0 hI.a)) <| Og 1 <| Oo (fun h0 e0 => st_l (i := ti25) (r := ro) (off := 1) (cs := [dI M.fSt, AG.d ga qa (A.map e52), dP e54 M.fFn]) (cs' := [dI M.fSt, AG.d (ga.app [e52 ⟨a.fFr, a.fTo, p.fLx, p.fSf, a.fWt⟩]) G.length ((A ++ [(⟨a.fFr, a.fTo, p.fLx, p.fSf, a.fWt⟩ : S52)]).map e52), dP e54 M.fFn]) (x := AG.d (ga.app [e52 ⟨a.fFr, a.fTo, p.fLx, p.fSf, a.fWt⟩]) G.length ((A ++ [(⟨a.fFr, a.fTo, p.fLx, p.fSf, a.fWt⟩ : S52)]).map e52)) (Hw (g := G.set qa .dead ++ [AG.o (ga.app [e52 ⟨a.fFr, a.fTo, p.fLx, p.fSf, a.fWt⟩]) 5 ((A ++ [(⟨a.fFr, a.fTo, p.fLx, p.fSf, a.fWt⟩ : S52)]).map e52)]) e0 hro) rfl (AG.one _ _ _) rfl) <| Od ?_
 exact hQ _ _ _ _ (hI.arc ⟨a.fFr, a.fTo, p.fLx, p.fSf, a.fWt⟩ (ga.app [e52 ⟨a.fFr, a.fTo, p.fLx, p.fSf, a.fWt⟩])) kr
theorem arcs7 {goal : List S52} (hg : outA ps M.fAs = some goal) (hl : M.fAs.length < 100000000) (hI : ZI M G ro ga qa [])
  (hQ : ∀ ga qa G σ, ZI M G ro ga qa goal → Abs.forget [4, 5, 14] σ = Sm 111 [(4, .ptr 0 0), (5, .ptr 1 0), (14, .ptr ro 0)] G → Q .normal σ) :
  HT (cR LH7) (Sm 111 (lA M ps ro 0) G) Q := by
 have hxn := hxM 1000010
 refine Hb 2 <| Ht.gen fun Q' hQ' => ?_
 replace hQ := fun ga qa G σ h1 h2 => hQ' _ _ (blkH.x (id := 2) (hQ ga qa G σ h1 h2))
 clear hQ'
 refine Ht.loop (fun z σ => ∃ (k : Nat) (A B : List S52) (ga : AG) (qa : Nat) (G : List AObj), k + z = M.fAs.length ∧ outA ps (M.fAs.drop k) = some B ∧ A ++ B = goal ∧ A.length = k ∧ ZI M G ro ga qa A ∧ Abs.forget KA σ = Sm 111 (lA M ps ro k) G) M.fAs.length kr
  ⟨0, [], goal, ga, qa, G, om, hg, rfl, rfl, hI, kr⟩ ?_
 clear hI hg
 rintro z σ ⟨k, A, B, ga, qa, G, hz, hg, hAB, hAl, hI, hσ⟩
 refine Hg KA hσ ?_
 clear hσ
 refine Hs <| Hr hxn <| Og 1 <| On <| Hs <| Hd ((k : Int) < (M.fAs.length : Int)) (fun hc => ?_) (fun hc => ?_)
 case refine_2 =>
  have hk : k = M.fAs.length := by omega
  rw [hk, List.drop_length] at hg
  cases hg
  rw [List.append_nil] at hAB
  subst hAB
  refine Ht.exit (id := 2) kr ?_
  exact hQ ga qa G _ hI kr
 have hlt : k < M.fAs.length := by omega
 rw [zI hlt] at hg
 have hx : M.fAs[k]? = some M.fAs[k] := zA hlt
 generalize M.fAs[k] = a at hg hx
 unfold outA at hg
 cases hp : idx ps (w64 (a.fIn - 1)) with
 | none => rw [hp] at hg; cases hg
 | some p =>
 cases hr : outA ps (M.fAs.drop (k + 1)) with
 | none => rw [hp, hr] at hg; cases hg
 | some B' =>
 rw [hp, hr] at hg
 cases hg
 refine Hk <| seqH.n <| Hs <| Hb 3 <| Hf KA (Sm 111 (lA M ps ro k) G) <| arc7 hx hp om hI fun ga qa G σ hI hσ => ?_
 refine blkH.n <| seqH.n <| Hg KA hσ <| Hr hxn <| Og 2 <| Od <| ⟨z - 1, om, k + 1, A ++ [⟨a.fFr, a.fTo, p.fLx, p.fSf, a.fWt⟩], B', ga, qa, G, om, hr, by rw [List.append_assoc]; exact hAB, by simp [hAl], hI, ?_⟩
 rw [← w64_nat om]
 kernel_rfl
set_option maxHeartbeats 4000000
theorem okF_eq {g : S29} (h : okF g = true) : g = ⟨0, 0⟩ := by
 cases g
 simp [okF] at h
 rw [h.1, h.2]
variable {M : S27} {f : S29} {o : S27 × S29} {ps : List S48}
theorem out7 (hps : ps.length ≤ 300) (ho : outM ps M f = some o) {G : List AObj} : HT F7 (Sm 111 (lV ps) (P7 M f G)) (Fin7 o) := by
 have hxn := hxM 1000010
 unfold outM at ho
 refine Hs <| Hs ?_
 cases hf : okF f with
 | false =>
  rw [hf] at ho
  simp only [Bool.false_eq_true, if_false, Option.some.injEq] at ho
  subst ho
  refine Hr hxn <| Og 2 <| Oo (fun h0 e0 => (show (binD TM .neq 30 (D.unt (.v (e29 f))) (D.unt (.v (.agg [vI 0, vI 0])))).map (·, h0) = some (dB true, h0) by rw [neF, hf]; rfl)) <| On <| Hy <| Hs <| HF hxn <| Og 4 <| On <| Ht.ret kr <| seqH.r ?_
  exact ⟨.inr rfl, resC (a := 4) (b := 5) (r := 0) (s := 1) (cs := [dI 0, .v nilS, .v nilS]) (x := f.fCo) (y := f.fIx) kr kr kr kr kr rfl (fl_zero _)⟩
 | true =>
 rw [hf, if_pos rfl] at ho
 cases hA : outA ps M.fAs with
 | none => rw [hA] at ho; cases ho
 | some A =>
 rw [hA] at ho
 dsimp only at ho
 split at ho
 case isFalse => cases ho
 rename_i hAl
 cases ho
 refine Hr hxn <| Og 2 <| Oo (fun h0 e0 => (show (binD TM .neq 30 (D.unt (.v (e29 f))) (D.unt (.v (.agg [vI 0, vI 0])))).map (·, h0) = some (dB false, h0) by rw [neF, hf]; rfl)) <| On <| Hz <| Hk <| seqH.n <| Hs <| Hr hxn <| Og 6 <| Oo (fun h0 e0 => sq ti28 (G.length + 7) 0 [dI 0, .v nilS, .v nilS] [dI M.fSt, .v nilS, dP e54 M.fFn] (.v (.agg [vI M.fSt, nilS, vP e54 M.fFn])) (Hw (g := P7 M f (G ++ [z28])) e0 (mid_get G _ []))) <| On <| Hf (14 :: KV) (Sm 111 ((14, .ptr (G.length + 7) 0) :: lV ps) (P7 M f ((G ++ [z28]).set G.length (.cells [dI M.fSt, .v nilS, dP e54 M.fFn])))) ?_
 rw [mid_set G _ _ []]
 have gm : (G ++ [AObj.cells [dI M.fSt, .v nilS, dP e54 M.fFn]])[G.length]? = some (.cells [dI M.fSt, .v nilS, dP e54 M.fFn]) := mid_get G _ []
 generalize G.length = v at gm ⊢
 generalize G ++ [AObj.cells [dI M.fSt, .v nilS, dP e54 M.fFn]] = G at gm ⊢
 refine Hs <| Hs <| Hr hxn <| Og 2 <| Oo (fun h0 e0 => lr h0 25 53 e52 M.fAs) <| Og 1 <| On ?_
 have hZ : ZI M (P7 M f G) (v + 7) (.fl .nil) 4 [] := ⟨rfl, rfl, gm, om, rfl⟩
 refine Hf KA (Sm 111 (lA M ps (v + 7) 0) (P7 M f G)) ?_
 generalize v + 7 = ro at hZ ⊢
 generalize P7 M f G = H at hZ ⊢
 refine arcs7 hA hAl hZ fun ga qa H σ hZ hσ => ?_
 refine seqH.n <| Hg [4, 5, 14] hσ ?_
 have h30 : (H.set 0 (.cells [dI M.fSt, AG.d ga qa (A.map e52), dP e54 M.fFn]))[1]? = some z30 := set_keep om hZ.g1
 refine Hs <| Hr hxn <| Oo (fun h0 e0 => lq ti28 ro 0 [dI M.fSt, AG.d ga qa (A.map e52), dP e54 M.fFn] (mkAgg [dI M.fSt, AG.d ga qa (A.map e52), dP e54 M.fFn]) (Hw e0 hZ.m)) <| Og 1 <| Oo (fun h0 e0 => st_s (i := ti28) (r := 0) (off := 0) (cs := [dI 0, .v nilS, .v nilS]) (cs' := [dI M.fSt, AG.d ga qa (A.map e52), dP e54 M.fFn]) (ds := [dI M.fSt, AG.d ga qa (A.map e52), dP e54 M.fFn]) (Hw e0 hZ.g0) rfl (all_sc rfl (all_sc (AG.sc _ _ _) (all_sc rfl rfl))) rfl) <| Oo (fun h0 e0 => sq ti30 1 0 [dI 0, dI 0] [dI 0, dI 0] (.v (.agg [vI 0, vI 0])) (Hw (g := H.set 0 (.cells [dI M.fSt, AG.d ga qa (A.map e52), dP e54 M.fFn])) e0 h30)) <| On <| Hf [4, 5] (Sm 111 [(4, .ptr 0 0), (5, .ptr 1 0)] ((H.set 0 (.cells [dI M.fSt, AG.d ga qa (A.map e52), dP e54 M.fFn])).set 1 z30)) <| Ht.ret kr ?_
 have k0 : ((H.set 0 (.cells [dI M.fSt, AG.d ga qa (A.map e52), dP e54 M.fFn])).set 1 z30)[0]? = some (.cells [dI M.fSt, AG.d ga qa (A.map e52), dP e54 M.fFn]) := set_keep om (set_new hZ.g0)
 have k1 : ((H.set 0 (.cells [dI M.fSt, AG.d ga qa (A.map e52), dP e54 M.fFn])).set 1 z30)[1]? = some (.cells [dI 0, dI 0]) := set_new h30
 generalize ((H.set 0 (.cells [dI M.fSt, AG.d ga qa (A.map e52), dP e54 M.fFn])).set 1 z30) = L at k0 k1
 exact ⟨.inr rfl, resC (a := 4) (b := 5) (r := 0) (s := 1) (σ := Sm 111 [(4, .ptr 0 0), (5, .ptr 1 0)] L) kr kr kr k0 k1 rfl (.cons _ _ rfl rfl (.cons _ _ (AG.frz _ _ _ _ _) (AG.na _ _ _) (.cons _ _ rfl rfl .nil)))⟩
noncomputable abbrev R8 : Code := cL (cR (cR (cR (cR C7))))
noncomputable abbrev r8 (i : Nat) : Oper := (opl R8).getD i default
variable {rules : List S57}
theorem reg8 (hps : ps.length ≤ 300) {m : Nat} (h : f47 m (numL ps.length) [List.replicate ps.length 0] [true] = some (M, f)) {Q : Post}
  (hQ : ∀ σ, Abs.forget (0 :: KV) σ = Sm 111 ((0, dP e57 rules) :: lV ps) (P7 M f []) → Q .normal σ) :
  HT R8 (Sm 111 [(0, dP e57 rules), (1, dP e48 ps), (4, .ptr 0 0), (5, .ptr 1 0), (8, dP eI (numL ps.length))] [z28, z30, w29 ⟨0, 0⟩, w29 ⟨0, 0⟩]) Q := by
 have hok : OkT [List.replicate ps.length 0] [true] ps.length := ⟨by simp, rfl, fun r hr => by simp at hr; subst hr; simp, fun r hr t ht => by
  simp at hr; subst hr
  have := (List.mem_replicate.1 ht).2
  subst this
  simp⟩
 have hxp := hxP false 1000010 is27 (call27 m hps hok h)
 let es : List V := (List.replicate ps.length (0 : Int)).map eI
 let l0 : List (Nat × D) := [(0, dP e57 rules), (1, dP e48 ps), (4, .ptr 0 0), (5, .ptr 1 0), (8, dP eI (numL ps.length)), (36, dP eI (numL ps.length)), (37, dP e48 ps), (38, dI ps.length)]
 refine Ht.zreg hxp kr <| Zo.seg' 2 2 kr <| Zo.one' 3 (fun h0 e0 => lr h0 23 49 e48 ps) kr kr ?_
 refine Zo.one' 4 (fun h0 e0 => mkI' (h := h0) (N := ps.length) om) kr kr ?_
 refine Zo.st (Sm 111 (l0 ++ [(39, .osl 4 0 es.length false)]) [z28, z30, w29 ⟨0, 0⟩, w29 ⟨0, 0⟩, .row 1 es]) kr ?_
 have hlet : letS (r8 4) (Sm 111 (l0 ++ [(39, .osl 4 0 es.length false)]) [z28, z30, w29 ⟨0, 0⟩, w29 ⟨0, 0⟩, .row 1 es]) = Sm 111 (l0 ++ [(39, .v (.sl .plain es))]) [z28, z30, w29 ⟨0, 0⟩, w29 ⟨0, 0⟩, .dead] := by
  refine Eq.trans (b := letAt (Sm 111 (l0 ++ [(39, .osl 4 0 es.length false)]) [z28, z30, w29 ⟨0, 0⟩, w29 ⟨0, 0⟩, .row 1 es]) 39) kr ?_
  rw [letAt_eq (r := 4) (k := 1) (es := es) kr rfl]
  kernel_rfl
 refine Zo.lets (Sm 111 (l0 ++ [(39, .v (.sl .plain es))]) [z28, z30, w29 ⟨0, 0⟩, w29 ⟨0, 0⟩, .dead]) 5 (r8 4) kr kr hlet kr <| Zo.seg' 1 6 kr <| Zo.one' 7 (fun h0 e0 => callP (row := false) (n := 1000010) (f0 := 27) (ds0 := [dP eI (numL ps.length), dP (eL eI) [List.replicate ps.length 0], dP eB [true]]) (ds := [dP eI (numL ps.length), .v (.sl .nonfull [eL eI (List.replicate ps.length 0)]), .v (.sl .nonfull [eB true])]) (h := h0) (r := .tuple [e27 M, e29 f]) rfl rfl rfl) kr kr ?_
 refine Zo.seg' 7 14 kr <| Zo.done kr ?_
 exact hQ _ kr
theorem wk7 (m : Nat) (hru : f24 1000000 rules = some ⟨0, 0⟩ → ∀ r ∈ rules, RuOk r) (h : f7c m rules ps = some o) : HT C7 (startIn Try.prog 7 [dP e57 rules, dP e48 ps] []) (Fin7 o) := by
 have hxn := hxM 1000010
 unfold f7c at h
 cases h24 : f24 1000000 rules with
 | none => rw [h24] at h; cases h
 | some g =>
 rw [h24] at h
 dsimp only at h
 refine Hs <| Hr hxn <| Og 2 <| On <| Hs <| Hs <| Hr hxn <| Og 1 <| Oo (fun h0 e0 => call_ok (E' := (XM 1000010).E) (h := h0) kr (Args.v (eL e57 rules) (eL e57 rules) kr Args.nil) (ok24 1000000 rules g h24 1000010 om)) <| Og 2 <| On <| Hf [0, 1, 4, 5, 6] (Sm 111 [(0, dP e57 rules), (1, dP e48 ps), (4, .ptr 0 0), (5, .ptr 1 0), (6, .ptr 2 0)] [z28, z30, w29 g]) <| Hs ?_
 cases hg : okF g with
 | false =>
  rw [hg] at h
  simp only [Bool.false_eq_true, if_false, Option.some.injEq] at h
  subst h
  refine Hr hxn <| Og 2 <| Oo (fun h0 e0 => (show (binD TM .neq 30 (D.unt (.v (e29 g))) (D.unt (.v (.agg [vI 0, vI 0])))).map (·, h0) = some (dB true, h0) by rw [neF, hg]; rfl)) <| On <| Hy <| Hs <| HF hxn <| Og 4 <| On <| Ht.ret kr <| seqH.r ?_
  exact ⟨.inr rfl, resC (a := 4) (b := 5) (r := 0) (s := 1) (cs := [dI 0, .v nilS, .v nilS]) (x := g.fCo) (y := g.fIx) kr kr kr kr kr rfl (fl_zero _)⟩
 | true =>
 rw [hg, if_pos rfl] at h
 have hg0 := okF_eq hg
 subst hg0
 have hru := hru h24
 cases h25 : f25 1000000 ps 300 true with
 | none => rw [h25] at h; cases h
 | some g2 =>
 rw [h25] at h
 dsimp only at h
 refine Hr hxn <| Og 3 <| On <| Hz <| Hk <| seqH.n <| Hs <| Hs <| Hr hxn <| Og 1 <| Oo (fun h0 e0 => call_ok (E' := (XM 1000010).E) (h := h0) kr (Args.v (eL e48 ps) (eL e48 ps) kr (Args.v (vI 300) (eI 300) kr (Args.v (vB true) (eB true) kr Args.nil))) (ok25 1000000 ps 300 true g2 h25 1000010 om)) <| Og 2 <| On <| Hf [0, 1, 4, 5, 7] (Sm 111 [(0, dP e57 rules), (1, dP e48 ps), (4, .ptr 0 0), (5, .ptr 1 0), (7, .ptr 3 0)] [z28, z30, w29 ⟨0, 0⟩, w29 g2]) <| Hs ?_
 cases hg2 : okF g2 with
 | false =>
  rw [hg2] at h
  simp only [Bool.false_eq_true, if_false, Option.some.injEq] at h
  subst h
  refine Hr hxn <| Og 2 <| Oo (fun h0 e0 => (show (binD TM .neq 30 (D.unt (.v (e29 g2))) (D.unt (.v (.agg [vI 0, vI 0])))).map (·, h0) = some (dB true, h0) by rw [neF, hg2]; rfl)) <| On <| Hy <| Hs <| HF hxn <| Og 4 <| On <| Ht.ret kr <| seqH.r ?_
  exact ⟨.inr rfl, resC (a := 4) (b := 5) (r := 0) (s := 1) (cs := [dI 0, .v nilS, .v nilS]) (x := g2.fCo) (y := g2.fIx) kr kr kr kr kr rfl (fl_zero _)⟩
 | true =>
 rw [hg2, if_pos rfl] at h
 have hg0 := okF_eq hg2
 subst hg0
 split at h
 case isFalse => cases h
 rename_i hlen
 obtain ⟨hps, hrl⟩ := hlen
 rcases h47 : f47 m (numL ps.length) [List.replicate ps.length 0] [true] with _ | ⟨M, f⟩
 ·rw [h47] at h; cases h
 rw [h47] at h
 dsimp only at h
 rcases hcl : compL m ps rules M f with _ | goal
 ·rw [hcl] at h; cases h
 rw [hcl] at h
 have ho : outM ps goal.1 goal.2 = some o := h
 refine Hr hxn <| Og 3 <| On <| Hz <| Hk <| seqH.n <| Hs <| Hr hxn <| Og 1 <| Oo (fun h0 e0 => lr h0 23 49 e48 ps) <| Oo (fun h0 e0 => call_ok (E' := (XM 1000010).E) (h := h0) kr (Args.v (vI ps.length) (vI ps.length) kr Args.nil) (ok26 1000001 ps.length (numL ps.length) (f26_eq _ _ om hps) 1000010 om)) <| Og 1 <| On <| Hf [0, 1, 4, 5, 8] (Sm 111 [(0, dP e57 rules), (1, dP e48 ps), (4, .ptr 0 0), (5, .ptr 1 0), (8, dP eI (numL ps.length))] [z28, z30, w29 ⟨0, 0⟩, w29 ⟨0, 0⟩]) <| Hs <| reg8 hps h47 fun σ hσ => ?_
 refine seqH.n <| Hg (0 :: KV) hσ <| Hs <| rules7 hru hps hrl hcl (fun f σ he hf hfin => ?_) (fun G σ hσ => ?_)
 ·refine seqH.r ?_
  subst he
  have ho : outM ps ⟨0, [], []⟩ f = some o := ho
  unfold outM at ho
  rw [hf] at ho
  cases ho
  exact hfin
 ·refine seqH.n <| Hg KV hσ ?_
  exact out7 hps ho
theorem is7 : Is Try.prog 7 := ⟨Try.f7, Try.func7, kr, kr⟩
theorem call7 (m : Nat) (hru : f24 1000000 rules = some ⟨0, 0⟩ → ∀ r ∈ rules, RuOk r) (h : f7c m rules ps = some o) : CallT False Try.prog 7 [dP e57 rules, dP e48 ps] [] fun d h' => d = .v (.tuple [e27 o.1, e29 o.2]) ∧ h' = [] :=
 callN (c := bodyOf Try.prog 7) (N := 6) Try.func7 kr TM_ok ((wk7 m hru h).mono fun e σ hf => hf)
end Go.Abs.Ty
