import Derived.Test.YtgmbaemdedachaaTU2
namespace Go.Abs.Tw
open Go.Sort Go.Proofs Go.Abs.Ta Go.Abs.Tb Go.Abs.Tc Go.Abs.Te Go.Abs.Tf Go.Abs.Tg Go.Abs.Th
set_option linter.unusedVariables false
set_option linter.unusedSimpArgs false
set_option linter.unnecessarySimpa false
set_option maxRecDepth 100000
set_option maxHeartbeats 4000000
def shI (a : Int) (k : Nat) : Int := a.fdiv (2 ^ (min k 64))
def shlI (a : Int) (k : Nat) : Int := IntKind.i64.wrap (a * 2 ^ (min k 64))
def andI (a b : Int) : Int := bits .and .i64 a b
def orI (a b : Int) : Int := bits .or .i64 a b
def bitB (l : Int) (k : Nat) : Bool := andI (shI l k) 1 == 1
theorem shrD (a : Int) (k : Nat) (h : List AObj) : (binD TM .shr 3 (D.unt (dI a)) (D.unt (dI (k : Int)))).map (·, h) = some (dI (shI a k), h) := by
 have e : shiftOp .shr .i64 a (k : Int) = some (.int .i64 (shI a k)) := by
  unfold shiftOp
  rw [if_neg om, zN]
  rfl
 show ((shiftOp .shr .i64 a (k : Int)).map D.v).map (·, h) = _
 rw [e]; rfl
theorem shlD (a : Int) (k : Nat) (h : List AObj) : (binD TM .shl 3 (D.unt (dI a)) (D.unt (dI (k : Int)))).map (·, h) = some (dI (shlI a k), h) := by
 have e : shiftOp .shl .i64 a (k : Int) = some (.int .i64 (shlI a k)) := by
  unfold shiftOp
  rw [if_neg om, zN]
  rfl
 show ((shiftOp .shl .i64 a (k : Int)).map D.v).map (·, h) = _
 rw [e]; rfl
def spotB (l : Int) (p : S48) : List S48 → Nat → Int → Int
 | [], _, b => b
 | q :: r, k, b => spotB l p r (k + 1) (if bitB l k && fitB q p then orI b (shlI 1 (k + 1)) else b)
noncomputable def C50 : Code := bodyOf Try.prog 50
noncomputable abbrev L50 : Code := cL (cR (cR (cR C50)))
noncomputable abbrev BL50 : Code := cL (cL (cR L50))
noncomputable abbrev I50 : Code := cL (cL (cR (cR BL50)))
noncomputable abbrev J50 : Code := cL (cR (cR (cR (cR I50))))
noncomputable abbrev BJ50 : Code := cL (cL (cR J50))
abbrev w82 (s : S82) : AObj := .cells [dP eI s.fLf, dP e111 s.fBad, dP (eL e111) s.fNd]
abbrev w72 (c : S72) : AObj := .cells [dP e48 c.fLf, dP e48 c.fRt, dB c.fBg, dB c.fEnd]
abbrev lC (g : Nat) (d9 : D) (cs : List S72) (i : Nat) (b : Int) : List (Nat × D) := [(3, .ptr 0 0), (4, .ptr 1 0), (5, .ptr 2 0), (6, .ptr 3 0), (8, .ptr 4 0), (9, d9), (10, dI i), (11, .ptr g 0), (12, dI b), (20, dP e72 cs), (21, dI cs.length), (22, dI i)]
abbrev KC : List Nat := [3, 4, 5, 6, 8, 9, 10, 11, 12, 20, 21, 22]
theorem spots50 (w : Nat) {s : S82} {p : S48} {c : S72} {cs : List S72} {g i : Nat} {d9 : D} {b0 l : Int} (hc : c.fLf.length ≤ 1000000) (hl : idx s.fLf (i : Int) = some l)
  {H : List AObj} (h1 : H[1]? = some (w82 s)) (h2 : H[2]? = some (w48 p)) (hg : H[g]? = some (w72 c)) {Q : Post}
  (hQ : ∀ m σ, Abs.forget KC σ = Sm 201 (lC g d9 cs i (spotB l p c.fLf 0 b0)) (H ++ m) → Q .normal σ) :
  HT J50 (Sm 201 (lC g d9 cs i b0) H) Q := by
 have hxn := hxM (w + 1)
 refine Hs <| Hr hxn <| Og 1 <| Oo (fun h0 e0 => lq ti23 g 0 [dP e48 c.fLf, dP e48 c.fRt, dB c.fBg, dB c.fEnd] (dP e48 c.fLf) (Hw e0 hg)) <| Oo (fun h0 e0 => lr h0 23 49 e48 c.fLf) <| Og 1 <| On <| Ht.gen fun Q2 hQ2 => ?_
 refine Hb 2 <| Ht.loop (fun n σ => ∃ (k : Nat) (b : Int) (m : List AObj), k + n = c.fLf.length ∧ spotB l p (c.fLf.drop k) k b = spotB l p c.fLf 0 b0 ∧
  Abs.forget (47 :: 48 :: 49 :: KC) σ = Sm 201 ((47, dP e48 c.fLf) :: (48, dI c.fLf.length) :: (49, dI k) :: lC g d9 cs i b) (H ++ m)) c.fLf.length kr
  ⟨0, b0, [], om, rfl, by rw [List.append_nil]; kernel_rfl⟩ ?_
 rintro n σ ⟨k, b, m, hk, hb, hσ⟩
 refine Hg (47 :: 48 :: 49 :: KC) hσ ?_
 clear hσ
 refine Hs <| Hr hxn <| Og 1 <| On <| Hs <| Hd ((k : Int) < (c.fLf.length : Int)) (fun hc => ?_) (fun hc => ?_)
 case refine_2 =>
  rw [zT om] at hb
  have hb : b = spotB l p c.fLf 0 b0 := hb
  subst hb
  refine Ht.exit (id := 2) kr ?_
  show blkH 2 Q2 (AExit.exit 2) _
  exact blkH.x (hQ2 _ _ (hQ m _ kr))
 have hlt : k < c.fLf.length := by omega
 rw [zI hlt] at hb
 have hx : c.fLf[k]? = some c.fLf[k] := zA hlt
 generalize c.fLf[k] = q at hb hx
 have ix : idx c.fLf (k : Int) = some q := by rw [idx_get]; exact hx
 have hb : spotB l p (c.fLf.drop (k + 1)) (k + 1) (if bitB l k && fitB q p then orI b (shlI 1 (k + 1)) else b) = spotB l p c.fLf 0 b0 := hb
 refine Hk <| seqH.n <| Hs <| Hb 3 <| Hs <| Hr hxn <| Og 1 <| Oo (fun h0 e0 => xr h0 23 49 2 e48 c.fLf k q ix) <| Og 3 <| Oo (fun h0 e0 => sq ti49 ((H ++ m).length) 0 [dI 0, dI 0] [dI q.fLx, dI q.fSf] (.v (e48 q)) (Hw (g := H ++ m ++ [AObj.cells [dI 0, dI 0]]) e0 (mid_get (H ++ m) _ []))) <| On <| Hf (13 :: 14 :: 47 :: 48 :: 49 :: KC) (Sm 201 ((13, dI k) :: (14, .ptr (H ++ m).length 0) :: (47, dP e48 c.fLf) :: (48, dI c.fLf.length) :: (49, dI k) :: lC g d9 cs i b) ((H ++ m ++ [AObj.cells [dI 0, dI 0]]).set (H ++ m).length (w48 q))) ?_
 rw [mid_set (H ++ m) _ _ []]
 have gq : (H ++ m ++ [w48 q])[(H ++ m).length]? = some (w48 q) := mid_get (H ++ m) _ []
 have g1 : (H ++ m ++ [w48 q])[1]? = some (w82 s) := app_keep (app_keep h1)
 have g2 : (H ++ m ++ [w48 q])[2]? = some (w48 p) := app_keep (app_keep h2)
 generalize (H ++ m).length = gg at gq
 rw [List.append_assoc] at gq g1 g2 ⊢
 generalize m ++ [w48 q] = m at gq g1 g2
 have last : ∀ (b' : Int) σ, spotB l p (c.fLf.drop (k + 1)) (k + 1) b' = spotB l p c.fLf 0 b0 → Abs.forget (47 :: 48 :: 49 :: KC) σ = Sm 201 ((47, dP e48 c.fLf) :: (48, dI c.fLf.length) :: (49, dI k) :: lC g d9 cs i b') (H ++ m) →
   HT (cR (cR (cR BJ50))) σ (lpH (fun n σ => ∃ (k : Nat) (b : Int) (m : List AObj), k + n = c.fLf.length ∧ spotB l p (c.fLf.drop k) k b = spotB l p c.fLf 0 b0 ∧
  Abs.forget (47 :: 48 :: 49 :: KC) σ = Sm 201 ((47, dP e48 c.fLf) :: (48, dI c.fLf.length) :: (49, dI k) :: lC g d9 cs i b) (H ++ m)) n (blkH 2 Q2)) := by
  intro b' σ h1 hσ
  refine Hg (47 :: 48 :: 49 :: KC) hσ <| Hr hxn <| Og 2 <| Od <| ⟨n - 1, om, k + 1, b', m, om, h1, ?_⟩
  rw [← w64_nat om]
  kernel_rfl
 refine Hs ?_
 cases hbit : bitB l k with
 | false =>
  rw [hbit] at hb
  refine Hr hxn <| Og 1 <| Oo (fun h0 e0 => lq ti62 1 0 [dP eI s.fLf, dP e111 s.fBad, dP (eL e111) s.fNd] (dP eI s.fLf) (Hw (g := H ++ m) e0 g1)) <| Og 1 <| Oo (fun h0 e0 => xr h0 62 3 1 eI s.fLf i l hl) <| Og 2 <| Oo (fun h0 e0 => shrD l k h0) <| Og 1 <| Oo (fun h0 e0 => bo h0 .eql (andI (shI l k) 1) 1 false (by rw [← hbit]; rfl)) <| Og 5 <| On <| Hz <| Hk <| blkH.n <| seqH.n ?_
  exact last b _ (by simpa using hb) kr
 | true =>
  rw [hbit, Bool.true_and] at hb
  refine Hr hxn <| Og 1 <| Oo (fun h0 e0 => lq ti62 1 0 [dP eI s.fLf, dP e111 s.fBad, dP (eL e111) s.fNd] (dP eI s.fLf) (Hw (g := H ++ m) e0 g1)) <| Og 1 <| Oo (fun h0 e0 => xr h0 62 3 1 eI s.fLf i l hl) <| Og 2 <| Oo (fun h0 e0 => shrD l k h0) <| Og 1 <| Oo (fun h0 e0 => bo h0 .eql (andI (shI l k) 1) 1 true (by rw [← hbit]; rfl)) <| Og 1 <| Oo (fun h0 e0 => lq ti49 gg 0 [dI q.fLx, dI q.fSf] (.v (e48 q)) (Hw (g := H ++ m) e0 gq)) <| Oo (fun h0 e0 => lq ti49 2 0 [dI p.fLx, dI p.fSf] (.v (e48 p)) (Hw (g := H ++ m) e0 g2)) <| Oo (fun h0 e0 => call_ok (E' := (XM (w + 1)).E) (h := h0) kr (Args.v (e48 q) (e48 q) kr (Args.v (e48 p) (e48 p) kr Args.nil)) (ok67 0 q p (fitB q p) (f67_eq 0 q p) (w + 1) om)) <| Og 1 <| On ?_
  cases hfit : fitB q p with
  | false =>
   rw [hfit] at hb
   refine Hz <| Hk <| blkH.n <| seqH.n ?_
   exact last b _ (by simpa using hb) kr
  | true =>
   rw [hfit] at hb
   refine Hy <| Hr hxn <| Og 3 <| Oo (fun h0 e0 => (show (binD TM .shl 3 (D.unt (dI 1)) (D.unt (dI (w64 ((k : Int) + 1))))).map (·, h0) = some (dI (shlI 1 (k + 1)), h0) from by rw [w64_nat om]; exact shlD 1 (k + 1) h0)) <| Og 2 <| Od <| blkH.n <| seqH.n ?_
   exact last (orI b (shlI 1 (k + 1))) _ (by simpa using hb) kr
set_option maxHeartbeats 4000000
def TdN {α : Type} (k : Nat) (f : α → V) (G : List AObj) (d : D) (T : List α) : Prop := (d = .v nilS ∧ T = []) ∨ ∃ q, d = .osl (q + 5) 0 T.length false ∧ G[q]? = some (.row k (T.map f)) ∧ T ≠ []
theorem TdN.app {α : Type} {k : Nat} {f : α → V} {G : List AObj} {d : D} {T : List α} (h : TdN k f G d T) (l : List AObj) : TdN k f (G ++ l) d T := by
 rcases h with h | ⟨q, rfl, hq⟩
 ·exact .inl h
 ·exact .inr ⟨q, rfl, app_keep hq.1, hq.2⟩
structure Ap {α : Type} (t k : Nat) (f : α → V) : Prop where
 nil : ∀ (h : List AObj) (s : α), appendD TM true t h (.v nilS) (.v (.sl .nonfull [f s])) = some (.osl h.length 0 1 false, h ++ [.row k [f s]])
 add : ∀ (h : List AObj) (q : Nat) (T : List α) (s : α), h[q]? = some (.row k (T.map f)) → T.length < 100000000 →
  appendD TM true t h (.osl q 0 T.length false) (.v (.sl .nonfull [f s])) = some (.osl h.length 0 (T ++ [s]).length false, h.set q .dead ++ [.row k ((T ++ [s]).map f)])
theorem apI : Ap 62 1 eI := ⟨fun h s => rfl, fun h q T s hq hT => apO (ys := [s]) hq rfl (by simp; omega)⟩
theorem apHo : Ap 80 2 e111 := ⟨fun h s => rfl, fun h q T s hq hT => apH (ys := [s]) hq rfl (by simp; omega)⟩
theorem apLs : Ap 81 1 (eL e111) := ⟨fun h s => rfl, fun h q T s hq hT => by
 have h1 : TM 81 = some ti81 := rfl
 have h2 : TM 80 = some ti80 := rfl
 have hx : elemsOf 1 h (D.unt (.v (.sl .nonfull [eL e111 s]))) = some ([s].map (eL e111)) := rfl
 simp only [appendD, h1, show ti81.kind = .slice 80 from rfl, h2]
 rw [if_neg (by decide), show ti80.size = 1 from rfl, hx]
 simp only [hq, Bool.true_eq_false, if_false]
 rw [if_pos ⟨trivial, by simp, by rw [show ti80.bytes = 24 from rfl]; simp; omega, by simp; unfold maxLen; omega⟩]
 have ht : List.take T.length (List.map (eL e111) T) = List.map (eL e111) T := zX (by simp)
 simp only [Bool.false_eq_true, if_false, if_true, ht, List.length_append, List.length_map, List.map_append]⟩
variable {G : List AObj}
theorem TdN.push {α : Type} {t k : Nat} {f : α → V} (A : Ap t k f) {a b c d e : AObj} {dd : D} {T : List α} (hI : TdN k f G dd T) (s : α) (hT : T.length < 100000000) :
  ∃ G', (∀ h, h = a :: b :: c :: d :: e :: G → appendD TM true t h dd (.v (.sl .nonfull [f s])) = some (.osl (G.length + 5) 0 (T ++ [s]).length false, a :: b :: c :: d :: e :: G')) ∧ TdN k f G' (.osl (G.length + 5) 0 (T ++ [s]).length false) (T ++ [s]) ∧
   (∀ (g : Nat) (cs : List D), G[g]? = some (AObj.cells cs) → G'[g]? = some (AObj.cells cs)) ∧
   ∀ {β : Type} {k2 : Nat} {f2 : β → V} {d2 : D} {T2 : List β}, (k = k2 → ∀ x y, f x = f2 y → False) → TdN k2 f2 G d2 T2 → TdN k2 f2 G' d2 T2 := by
 rcases hI with ⟨rfl, rfl⟩ | ⟨q, rfl, hq, hne⟩
 ·exact ⟨G ++ [.row k [f s]], fun h e => by subst e; exact A.nil _ s, .inr ⟨G.length, rfl, mid_get _ _ _, by simp⟩, fun _ _ h => app_keep h, fun _ h => h.app _⟩
 ·refine ⟨G.set q .dead ++ [.row k ((T ++ [s]).map f)], fun h e => by subst e; exact A.add _ (q + 5) T s hq hT, .inr ⟨G.length, rfl, ?_, by simp⟩, fun g cs hg => app_keep (set_keep (fun e => ?_) hg), fun {β k2 f2 d2 T2} hd h => ?_⟩
  ·rw [show G.length = (G.set q AObj.dead).length by simp]
   exact mid_get _ _ _
  ·subst e
   rw [hq] at hg
   cases hg
  ·rcases h with h | ⟨q2, rfl, hq2, hne2⟩
   ·exact .inl h
   ·refine .inr ⟨q2, rfl, app_keep (set_keep (fun e => ?_) hq2), hne2⟩
    subst e
    rw [hq] at hq2
    cases T with
    | nil => exact hne rfl
    | cons x T =>
     cases T2 with
     | nil => exact hne2 rfl
     | cons y T2 =>
      simp only [Option.some.injEq, AObj.row.injEq, List.map_cons, List.cons.injEq] at hq2
      exact hd hq2.1 x y hq2.2.1
abbrev z83 : AObj := .cells [.v nilS, .v nilS, .v nilS]
abbrev P5 (r : S57) (s : S82) (p : S48) (dl db dn : D) (G : List AObj) : List AObj := w57 r :: w82 s :: w48 p :: z83 :: .cells [dl, db, dn] :: G
abbrev lO (d9 : D) (cs : List S72) (i : Nat) : List (Nat × D) := [(3, .ptr 0 0), (4, .ptr 1 0), (5, .ptr 2 0), (6, .ptr 3 0), (8, .ptr 4 0), (9, d9), (20, dP e72 cs), (21, dI cs.length), (22, dI i)]
abbrev KO : List Nat := [3, 4, 5, 6, 8, 9, 20, 21, 22]
def leftB (p : S48) (c : S72) (l : Int) : Int := spotB l p c.fLf 0 (if c.fBg then 0 else 1)
theorem ctx50 (w : Nat) {r : S57} {s : S82} {p : S48} {c : S72} {cs : List S72} {i : Nat} {l : Int} (hi : i < 1000000000) (hcl : c.fLf.length ≤ 1000000) (hc : idx cs (i : Int) = some c) (hl : idx s.fLf (i : Int) = some l)
  {dl d9 : D} {TL : List Int} {TH : List S111} (hL : TdN 1 eI G dl TL) (hH : TdN 2 e111 G d9 TH) (hTL : TL.length < 100000000) (hTH : TH.length < 100000000) {Q : Post}
  (hQ : ∀ dl' d9' G' σ, TdN 1 eI G' dl' (TL ++ [leftB p c l]) → TdN 2 e111 G' d9' (TH ++ if bitB l c.fLf.length then [⟨i, 0⟩] else []) → Abs.forget KO σ = Sm 201 (lO d9' cs i) (P5 r s p dl' (.v nilS) (.v nilS) G') → Q .normal σ) :
  HT I50 (Sm 201 (lO d9 cs i) (P5 r s p dl (.v nilS) (.v nilS) G)) Q := by
 have hxn := hxM (w + 1)
 have hxr := hxR (w + 1)
 refine Hs <| Hr hxn <| Og 1 <| Oo (fun h0 e0 => xr h0 56 73 4 e72 cs i c hc) <| Og 3 <| Oo (fun h0 e0 => sq ti73 (G.length + 5) 0 [.v nilS, .v nilS, dB false, dB false] [dP e48 c.fLf, dP e48 c.fRt, dB c.fBg, dB c.fEnd] (.v (e72 c)) (Hw (g := P5 r s p dl (.v nilS) (.v nilS) (G ++ [AObj.cells [.v nilS, .v nilS, dB false, dB false]])) e0 (mid_get G _ []))) <| On <| Hf (10 :: 11 :: KO) (Sm 201 ((10, dI i) :: (11, .ptr (G.length + 5) 0) :: lO d9 cs i) (P5 r s p dl (.v nilS) (.v nilS) ((G ++ [AObj.cells [.v nilS, .v nilS, dB false, dB false]]).set G.length (w72 c)))) ?_
 rw [mid_set G _ _ []]
 have gc : (G ++ [w72 c])[G.length]? = some (w72 c) := mid_get G _ []
 have hL := hL.app [w72 c]
 have hH := hH.app [w72 c]
 generalize G.length = g at gc
 generalize G ++ [w72 c] = G at gc hL hH
 have tail : ∀ (d9 : D) (TH' : List S111) (G : List AObj) σ, TdN 1 eI G dl TL → TdN 2 e111 G d9 TH' → G[g]? = some (w72 c) → TH' = (TH ++ if bitB l c.fLf.length then [⟨i, 0⟩] else []) →
   Abs.forget (10 :: 11 :: KO) σ = Sm 201 ((10, dI i) :: (11, .ptr (g + 5) 0) :: lO d9 cs i) (P5 r s p dl (.v nilS) (.v nilS) G) → HT (cR (cR I50)) σ Q := by
  intro d9 TH' G σ hL hH gc hT hσ
  refine Hg (10 :: 11 :: KO) hσ ?_
  clear hσ
  refine Hs <| Hr hxn <| Og 1 <| On ?_
  have tail2 : ∀ σ, Abs.forget KC σ = Sm 201 (lC (g + 5) d9 cs i (if c.fBg then 0 else 1)) (P5 r s p dl (.v nilS) (.v nilS) G) → HT (cR (cR (cR (cR I50)))) σ Q := by
   intro σ hσ
   refine Hg KC hσ ?_
   clear hσ
   refine Hs <| spots50 w (b0 := if c.fBg then 0 else 1) (l := l) (p := p) (c := c) hcl hl (H := P5 r s p dl (.v nilS) (.v nilS) G) rfl rfl gc fun m σ hσ => ?_
   refine seqH.n <| Hg KC hσ ?_
   clear hσ
   obtain ⟨G', ha, hL', _, hk⟩ := TdN.push apI (a := w57 r) (b := w82 s) (c := w48 p) (d := z83) (e := .cells [dl, .v nilS, .v nilS]) (hL.app m) (leftB p c l) hTL
   refine Hr hxr <| Og 4 <| Oo (fun h0 e0 => ha h0 (e0.trans kr)) <| Og 2 <| Od ?_
   exact hQ _ _ G' _ hL' (hT ▸ hk (fun e => by cases e) (hH.app m)) kr
  refine Hs <| Hs ?_
  cases hb : c.fBg with
  | true =>
   refine Hr hxn <| Og 1 <| Oo (fun h0 e0 => lq ti4 (g + 5) 2 [dP e48 c.fLf, dP e48 c.fRt, dB c.fBg, dB c.fEnd] (dB true) (Hw (g := P5 r s p dl (.v nilS) (.v nilS) G) e0 gc) (by rw [hb]; rfl)) <| Og 1 <| On <| Hz <| Hk <| seqH.n ?_
   exact tail2 _ (by rw [hb]; kernel_rfl)
  | false =>
   refine Hr hxn <| Og 1 <| Oo (fun h0 e0 => lq ti4 (g + 5) 2 [dP e48 c.fLf, dP e48 c.fRt, dB c.fBg, dB c.fEnd] (dB false) (Hw (g := P5 r s p dl (.v nilS) (.v nilS) G) e0 gc) (by rw [hb]; rfl)) <| Og 1 <| On <| Hy <| Hr hxn <| Og 1 <| On ?_
   exact tail2 _ (by rw [hb]; kernel_rfl)
 refine Hs <| Hs <| Hr hxn <| Og 3 <| Oo (fun h0 e0 => xr h0 62 3 1 eI s.fLf i l hl) <| Og 2 <| Oo (fun h0 e0 => lq ti23 (g + 5) 0 [dP e48 c.fLf, dP e48 c.fRt, dB c.fBg, dB c.fEnd] (dP e48 c.fLf) (Hw (g := P5 r s p dl (.v nilS) (.v nilS) G) e0 gc)) <| Oo (fun h0 e0 => lr h0 23 49 e48 c.fLf) <| Oo (fun h0 e0 => shrD l c.fLf.length h0) <| Og 2 <| On <| Ht.cond (bitB l c.fLf.length) kr kr (fun hb => ?_) (fun hb => ?_)
 ·obtain ⟨G', ha, hH', hg', hk⟩ := TdN.push apHo (a := w57 r) (b := w82 s) (c := w48 p) (d := z83) (e := .cells [dl, .v nilS, .v nilS]) hH (⟨i, 0⟩ : S111) hTH
  refine Hr hxr <| Og 4 <| Oo (fun h0 e0 => ha h0 (e0.trans kr)) <| Og 1 <| On ?_
  exact tail _ _ G' _ (hk (fun e => by cases e) hL) hH' (hg' _ _ gc) (by rw [hb]; rfl) kr
 ·refine Hk <| seqH.n ?_
  exact tail _ _ G _ hL hH gc (by rw [hb]; simp) kr
set_option maxHeartbeats 4000000
def leftsB (p : S48) : List S72 → List Int → List Int
 | c :: cs, l :: ls => leftB p c l :: leftsB p cs ls
 | _, _ => []
def hereB : List S72 → List Int → Nat → List S111
 | c :: cs, l :: ls, i => (if bitB l c.fLf.length then [⟨i, 0⟩] else []) ++ hereB cs ls (i + 1)
 | _, _, _ => []
abbrev lS (d9 : D) : List (Nat × D) := [(3, .ptr 0 0), (4, .ptr 1 0), (5, .ptr 2 0), (6, .ptr 3 0), (8, .ptr 4 0), (9, d9)]
abbrev KS : List Nat := [3, 4, 5, 6, 8, 9]
variable {G : List AObj} {Q : Post} {p : S48} {r : S57} {s : S82}
theorem ctxs50 (w : Nat) (hn : r.fCx.length ≤ 1000000) (hs : s.fLf.length = r.fCx.length) (hcl : ∀ c ∈ r.fCx, c.fLf.length ≤ 1000000)

  (hQ : ∀ dl d9 G σ, TdN 1 eI G dl (leftsB p r.fCx s.fLf) → TdN 2 e111 G d9 (hereB r.fCx s.fLf 0) → Abs.forget KS σ = Sm 201 (lS d9) (P5 r s p dl (.v nilS) (.v nilS) G) → Q .normal σ) :
  HT L50 (Sm 201 (lS (.v nilS)) (P5 r s p (.v nilS) (.v nilS) (.v nilS) G)) Q := by
 have hxn := hxM (w + 1)
 refine Hs <| Hr hxn <| Og 2 <| Oo (fun h0 e0 => lr h0 56 73 e72 r.fCx) <| Og 1 <| On <| Ht.gen fun Q2 hQ2 => ?_
 refine Hb 0 <| Ht.loop (fun n σ => ∃ (i : Nat) (dl d9 : D) (TL : List Int) (TH : List S111) (G : List AObj), i + n = r.fCx.length ∧ TL.length = i ∧ TH.length ≤ i ∧ TL ++ leftsB p (r.fCx.drop i) (s.fLf.drop i) = leftsB p r.fCx s.fLf ∧
  TH ++ hereB (r.fCx.drop i) (s.fLf.drop i) i = hereB r.fCx s.fLf 0 ∧ TdN 1 eI G dl TL ∧ TdN 2 e111 G d9 TH ∧
  Abs.forget KO σ = Sm 201 (lO d9 r.fCx i) (P5 r s p dl (.v nilS) (.v nilS) G)) r.fCx.length kr
  ⟨0, .v nilS, .v nilS, [], [], G, om, rfl, zL _, rfl, rfl, .inl ⟨rfl, rfl⟩, .inl ⟨rfl, rfl⟩, kr⟩ ?_
 rintro n σ ⟨i, dl, d9, TL, TH, G, hi, hTL, hTH, gL, gH, hL, hH, hσ⟩
 refine Hg KO hσ ?_
 clear hσ
 refine Hs <| Hr hxn <| Og 1 <| On <| Hs <| Hd ((i : Int) < (r.fCx.length : Int)) (fun hc => ?_) (fun hc => ?_)
 case refine_2 =>
  rw [zT om, zT om] at gL gH
  have gL : TL = leftsB p r.fCx s.fLf := (List.append_nil _).symm.trans gL
  have gH : TH = hereB r.fCx s.fLf 0 := (List.append_nil _).symm.trans gH
  refine Ht.exit (id := 0) kr ?_
  show blkH 0 Q2 (AExit.exit 0) _
  exact blkH.x (hQ2 _ _ (hQ dl d9 G _ (gL ▸ hL) (gH ▸ hH) kr))
 have hlt : i < r.fCx.length := by omega
 have hlt2 : i < s.fLf.length := by omega
 rw [zI hlt, zI hlt2] at gL gH
 have hx : r.fCx[i]? = some r.fCx[i] := zA hlt
 have hy : s.fLf[i]? = some s.fLf[i] := zA hlt2
 have hm := List.getElem_mem hlt
 generalize r.fCx[i] = c at gL gH hx hm
 generalize s.fLf[i] = l at gL gH hy
 refine Hk <| seqH.n <| Hs <| Hb 1 <| Hf KO (Sm 201 (lO d9 r.fCx i) (P5 r s p dl (.v nilS) (.v nilS) G)) <| ctx50 w (c := c) (l := l) om (hcl c hm) (by rw [idx_get]; exact hx) (by rw [idx_get]; exact hy) hL hH om om fun dl' d9' G' σ hL' hH' hσ => ?_
 refine blkH.n <| seqH.n <| Hg KO hσ ?_
 clear hσ
 refine Hr hxn <| Og 2 <| Od <| ⟨n - 1, om, i + 1, dl', d9', _, _, G', om, by simp [hTL], ?_, ?_, ?_, hL', hH', ?_⟩
 ·split <;> simp <;> omega
 ·rw [List.append_assoc]; exact gL
 ·rw [List.append_assoc]; exact gH
 ·refine Eq.trans ?_ (congrArg (fun z => Sm 201 [(3, .ptr 0 0), (4, .ptr 1 0), (5, .ptr 2 0), (6, .ptr 3 0), (8, .ptr 4 0), (9, d9'), (20, dP e72 r.fCx), (21, dI r.fCx.length), (22, dI z)] (P5 r s p dl' (.v nilS) (.v nilS) G')) (w64_nat (j := i) om))
  kernel_rfl
theorem freeze50 {dl d9 : D} {TL : List Int} {TH : List S111} (hL : TdN 1 eI G dl TL) (hH : TdN 2 e111 G d9 TH) {c : Code}
  (h : ∀ (fl : SFlag) G, (fl = .plain ∨ fl = .nil ∧ TH = []) → TdN 1 eI G dl TL → HT c (Sm 201 (lS (.v (.sl fl (TH.map e111)))) (P5 r s p dl (.v nilS) (.v nilS) G)) Q) :
  HT c (Sm 201 (lS d9) (P5 r s p dl (.v nilS) (.v nilS) G)) Q := by
 rcases hH with ⟨rfl, rfl⟩ | ⟨q, rfl, hq, hne⟩
 ·exact h .nil G (.inr ⟨rfl, rfl⟩) hL
 ·have hq' : (P5 r s p dl (.v nilS) (.v nilS) G)[q + 5]? = some (.row 2 (TH.map e111)) := hq
  refine Ht.freezeR (t := 9) (r := q + 5) (k := 2) (es := TH.map e111) (by rw [List.length_map]; kernel_rfl) hq' <| Ht.st (σ' := Sm 201 (lS (.v (.sl .plain (TH.map e111)))) (P5 r s p dl (.v nilS) (.v nilS) (G.set q .dead))) kr (h .plain _ (.inl rfl) ?_)
  rcases hL with hL | ⟨q2, rfl, hq2, hne2⟩
  ·exact .inl hL
  ·refine .inr ⟨q2, rfl, set_keep (fun e => ?_) hq2, hne2⟩
   subst e
   rw [hq] at hq2
   cases hq2
end Go.Abs.Tw
