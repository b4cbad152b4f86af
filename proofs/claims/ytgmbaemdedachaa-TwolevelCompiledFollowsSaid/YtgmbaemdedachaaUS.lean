import Derived.Test.YtgmbaemdedachaaUO
namespace Go.Abs.Ty
open Go.Sort Go.Proofs Go.Abs.Ta Go.Abs.Tb Go.Abs.Tc Go.Abs.Te Go.Abs.Tf Go.Abs.Tg Go.Abs.Th Go.Abs.Ts Go.Abs.Tw
set_option linter.unusedVariables false
set_option linter.unusedSimpArgs false
set_option linter.unnecessarySimpa false
set_option maxRecDepth 100000
set_option maxHeartbeats 4000000
def solidO : AObj → Bool
 | .row _ _ => true
 | .cells _ => true
 | .map _ _ => true
 | _ => false
theorem o_soft (ag : AG) (k : Nat) (xs : List V) : solidO (AG.o ag k xs) = false := by cases ag <;> rfl
variable {ag : AG} {k q q' : Nat} {o x : AObj} {xs : List V}
theorem keepO {G : List AObj} (h : G[q]? = some (AG.o ag k xs)) (hq : G[q']? = some o) (ho : solidO o = true) : (G.set q x)[q']? = some o := by
 refine set_keep (fun e => ?_) hq
 subst e
 rw [h] at hq
 cases hq
 rw [o_soft] at ho
 cases ho
theorem keepS {G : List AObj} (h : G[q]? = some o) (ho : solidO o = true) (hq : G[q']? = some (AG.o ag k xs)) : (G.set q x)[q']? = some (AG.o ag k xs) := by
 refine set_keep (fun e => ?_) hq
 subst e
 rw [h] at hq
 cases hq
 rw [o_soft] at ho
 cases ho
structure OI (r : S57) (L : List S82) (K : List ByteArray) (N : List (List Int)) (F : List Bool) (gl : AG) (ql : Nat) (gn : AG) (qn : Nat) (gf : AG) (qf rm : Nat) (G : List AObj) : Prop where
 g0 : G[0]? = some (w57 r)
 g1 : G[1]? = some z28
 g2 : G[2]? = some z30
 l : G[ql]? = some (AG.o gl 3 (L.map e82))
 n : G[qn]? = some (AG.o gn 1 (N.map (eL eI)))
 f : G[qf]? = some (AG.o gf 1 (F.map eB))
 m : G[rm]? = some (oM K)
 ne : qn ≠ qf
section
variable {r : S57} {L : List S82} {K : List ByteArray} {N : List (List Int)} {F : List Bool} {gl : AG} {ql : Nat} {gn : AG} {qn : Nat} {gf : AG} {qf rm : Nat} {G : List AObj}
theorem OI.app (h : OI r L K N F gl ql gn qn gf qf rm G) (l : List AObj) : OI r L K N F gl ql gn qn gf qf rm (G ++ l) :=
 ⟨app_keep h.g0, app_keep h.g1, app_keep h.g2, app_keep h.l, app_keep h.n, app_keep h.f, app_keep h.m, h.ne⟩
theorem OI.row (h : OI r L K N F gl ql gn qn gf qf rm G) {q : Nat} {R : List V} {x : AObj} (hq : G[q]? = some (.row 1 R)) : OI r L K N F gl ql gn qn gf qf rm (G.set q x) := by
 have ne : ∀ {q' : Nat} {o : AObj}, G[q']? = some o → (∀ k es, o ≠ .row k es) → (G.set q x)[q']? = some o := fun h1 h2 => set_keep (fun e => by
  subst e
  rw [hq] at h1
  exact h2 _ _ (zC h1).symm) h1
 exact ⟨ne h.g0 fun _ _ e => (by cases e), ne h.g1 fun _ _ e => (by cases e), ne h.g2 fun _ _ e => (by cases e), keepS hq rfl h.l, keepS hq rfl h.n, keepS hq rfl h.f, ne h.m fun _ _ e => (by cases e), h.ne⟩
theorem OI.map (h : OI r L K N F gl ql gn qn gf qf rm G) (K' : List ByteArray) : OI r L K' N F gl ql gn qn gf qf rm (G.set rm (oM K')) := by
 have ne : ∀ {q' : Nat} {o : AObj}, G[q']? = some o → (∀ ks vs, o ≠ .map ks vs) → (G.set rm (oM K'))[q']? = some o := fun h1 h2 => set_keep (fun e => by
  subst e
  rw [h.m] at h1
  exact h2 _ _ (zC h1).symm) h1
 exact ⟨ne h.g0 fun _ _ e => (by cases e), ne h.g1 fun _ _ e => (by cases e), ne h.g2 fun _ _ e => (by cases e), keepS h.m rfl h.l, keepS h.m rfl h.n, keepS h.m rfl h.f, set_new h.m, h.ne⟩
theorem end_get (G : List AObj) (q : Nat) (x : AObj) : (G.set q AObj.dead ++ [x])[G.length]? = some x := by
 have := mid_get (G.set q AObj.dead) x []
 rwa [zP] at this
theorem OI.lst (h : OI r L K N F gl ql gn qn gf qf rm G) (s : S82) (g : AG) : OI r (L ++ [s]) K N F g G.length gn qn gf qf rm (G.set ql .dead ++ [AG.o g 3 ((L ++ [s]).map e82)]) :=
 ⟨app_keep (keepO h.l h.g0 rfl), app_keep (keepO h.l h.g1 rfl), app_keep (keepO h.l h.g2 rfl), end_get _ _ _, app_keep (Tg.set_dead h.l h.n (by decide)), app_keep (Tg.set_dead h.l h.f (by decide)), app_keep (keepO h.l h.m rfl), h.ne⟩
theorem OI.nxt (h : OI r L K N F gl ql gn qn gf qf rm G) (R : List Int) (g : AG) : OI r L K (N ++ [R]) F gl ql g G.length gf qf rm (G.set qn .dead ++ [AG.o g 1 ((N ++ [R]).map (eL eI))]) := by
 have := yE h.f
 exact ⟨app_keep (keepO h.n h.g0 rfl), app_keep (keepO h.n h.g1 rfl), app_keep (keepO h.n h.g2 rfl), app_keep (Tg.set_dead h.n h.l (by decide)), end_get _ _ _, app_keep (set_keep h.ne h.f), app_keep (keepO h.n h.m rfl), om⟩
theorem OI.fin (h : OI r L K N F gl ql gn qn gf qf rm G) (b : Bool) (g : AG) : OI r L K N (F ++ [b]) gl ql gn qn g G.length rm (G.set qf .dead ++ [AG.o g 1 ((F ++ [b]).map eB)]) := by
 have := yE h.n
 exact ⟨app_keep (keepO h.f h.g0 rfl), app_keep (keepO h.f h.g1 rfl), app_keep (keepO h.f h.g2 rfl), app_keep (Tg.set_dead h.f h.l (by decide)), app_keep (set_keep (Ne.symm h.ne) h.n), end_get _ _ _, app_keep (keepO h.f h.m rfl), om⟩
end
noncomputable def C28 : Code := bodyOf Try.prog 28
noncomputable abbrev A28 : Code := cR (cR (cR (cR (cR C28))))
noncomputable abbrev L28 : Code := cL A28
noncomputable abbrev BL28 : Code := cL (cL (cR L28))
noncomputable abbrev I28 : Code := cL (cL (cR BL28))
noncomputable abbrev J28 : Code := cL (cR I28)
noncomputable abbrev BJ28 : Code := cL (cL (cR J28))
noncomputable abbrev BB28 : Code := cL (cL (cR (cR BJ28)))
abbrev lS (r : S57) (ps : List S48) (L : List S82) (N : List (List Int)) (F : List Bool) (gl : AG) (ql : Nat) (gn : AG) (qn : Nat) (gf : AG) (qf rm : Nat) (i : Int) : List (Nat × D) :=
 [(1, dP e48 ps), (2, .ptr 0 0), (4, .ptr 1 0), (5, .ptr 2 0), (6, AG.d gl ql (L.map e82)), (7, .map rm), (8, AG.d gn qn (N.map (eL eI))), (9, AG.d gf qf (F.map eB)), (10, dI i)]
abbrev K1 : List Nat := [1, 2, 4, 5, 6, 7, 8, 9, 10]
abbrev lR (q n : Nat) (r : S57) (ps : List S48) (L : List S82) (N : List (List Int)) (F : List Bool) (gl : AG) (ql : Nat) (gn : AG) (qn : Nat) (gf : AG) (qf rm : Nat) (i k : Int) : List (Nat × D) :=
 (11, sI q n) :: (36, dP e48 ps) :: (37, dI ps.length) :: (38, dI k) :: lS r ps L N F gl ql gn qn gf qf rm i
abbrev K2 : List Nat := 11 :: 36 :: 37 :: 38 :: K1
theorem pair28 {r : S57} {s : S82} {p : S48} {ps rest : List S48} (hr : RuOk r) {L : List S82} {K : List ByteArray} {N : List (List Int)} {F : List Bool} {gl : AG} {ql : Nat} {gn : AG} {qn : Nat} {gf : AG} {qf rm n i : Nat} {R : List Int} {G : List AObj}
  (hI : OI r L K N F gl ql gn qn gf qf rm G) (hL : LInv r L K) (hs : L[i]? = some s) (hLl : L.length ≤ 30000) (hp : idx ps (k : Int) = some p) (hk : k < n) (hRn : R.length = n) (hq : G[q]? = some (oI R)) {Q : Post}
  (hQ : ∀ e L' K' R' gl ql G σ, (e = .normal ∨ e = .exit 3) → rowB r s rest (k + 1) L' K' R' = rowB r s (p :: rest) k L K R → OI r L' K' N F gl ql gn qn gf qf rm G → LInv r L' K' → L'[i]? = some s → L'.length ≤ L.length + 1 → R'.length = n → G[q]? = some (oI R') →
   Abs.forget K2 σ = Sm 108 (lR q n r ps L' N F gl ql gn qn gf qf rm i k) G → Q e σ) :
  HT BB28 (Sm 108 (lR q n r ps L N F gl ql gn qn gf qf rm i k) G) Q := by
 have hxn := hxM 1000010
 have hi := yE hs
 have hsv := hL.st i s hs
 have hc := call50 (p := p) (hsv.ok hr om)
 have hstep := sinv_step p hr hsv
 have hrow : rowB r s (p :: rest) k L K R = if (stepB r s p).2 then
   match kfind (keyB (stepB r s p).1) K 0 with
   | some n => rowB r s rest (k + 1) L K (R.set k (n : Int))
   | none => rowB r s rest (k + 1) (L ++ [(stepB r s p).1]) (K ++ [keyB (stepB r s p).1]) (R.set k (L.length : Int))
  else rowB r s rest (k + 1) L K (R.set k (-1)) := rfl
 have hpush := fun kk => hL.push (p := p) hr hi hsv kk
 rw [hrow] at hQ
 clear hrow
 rcases hst : stepB r s p with ⟨t, b⟩
 rw [hst] at hQ hc hstep hpush
 dsimp only at hQ hc hstep hpush
 have hxp := hxP false 1000010 is50 hc
 have ixs : idx L (i : Int) = some s := by rw [idx_get]; exact hs
 refine Hs <| Hr hxn <| Og 1 <| Oo (fun h0 e0 => xr h0 23 49 2 e48 ps k p hp) <| Og 3 <| Oo (fun h0 e0 => sq ti49 G.length 0 [dI 0, dI 0] [dI p.fLx, dI p.fSf] (.v (e48 p)) (Hw (g := G ++ [AObj.cells [dI 0, dI 0]]) e0 (mid_get G _ []))) <| On <| Hf (12 :: 13 :: K2) (Sm 108 ((12, dI k) :: (13, .ptr G.length 0) :: lR q n r ps L N F gl ql gn qn gf qf rm i k) ((G ++ [AObj.cells [dI 0, dI 0]]).set G.length (w48 p))) ?_
 rw [mid_set G _ _ []]
 have gp : (G ++ [w48 p])[G.length]? = some (w48 p) := mid_get G _ []
 have hI := hI.app [w48 p]
 have hq := app_keep (l := [w48 p]) hq
 generalize G.length = g at gp ⊢
 generalize G ++ [w48 p] = G at gp hI hq ⊢
 refine Hs <| Hr hxp <| Oo (fun h0 e0 => lq ti58 0 0 [dI r.fKn, dI r.fPr.fLx, dI r.fPr.fSf, dP e72 r.fCx] (.v (e57 r)) (Hw e0 hI.g0)) <| Og 2 <| Oo (fun h0 e0 => ix_g (T := TM) h0 85 83 3 ql gl e82 L i s ixs kr kr (fun _ => rfl)) <| Og 1 <| Oo (fun h0 e0 => lq ti49 g 0 [dI p.fLx, dI p.fSf] (.v (e48 p)) (Hw e0 gp)) <| Oo (fun h0 e0 => callP (row := false) (n := 1000010) (f0 := 50) (ds0 := [.v (e57 r), .v (e82 s), .v (e48 p)]) (ds := [.v (e57 r), .v (e82 s), .v (e48 p)]) (h := h0) (r := .tuple [e82 t, vB b]) rfl rfl rfl) <| Og 4 <| Oo (fun h0 e0 => sq ti83 G.length 0 [.v nilS, .v nilS, .v nilS] [dP eI t.fLf, dP e111 t.fBad, dP (eL e111) t.fNd] (.v (e82 t)) (Hw (g := G ++ [z83]) e0 (mid_get G _ []))) <| Og 1 <| On <| Hf (12 :: 14 :: 15 :: K2) (Sm 108 ((12, dI k) :: (14, .ptr G.length 0) :: (15, dB b) :: lR q n r ps L N F gl ql gn qn gf qf rm i k) ((G ++ [z83]).set G.length (w82 t))) ?_
 rw [mid_set G _ _ []]
 have gs : (G ++ [w82 t])[G.length]? = some (w82 t) := mid_get G _ []
 have hI := hI.app [w82 t]
 have hq := app_keep (l := [w82 t]) hq
 clear gp
 generalize G.length = g at gs ⊢
 generalize G ++ [w82 t] = G at gs hI hq ⊢
 refine Hs <| Hr hxn <| Og 2 <| Oo (fun h0 e0 => ixI (N := n) (i := k) (Hw e0 hq) rfl hk) <| Oo (fun h0 e0 => stI (b := R) (i := k) (x := -1) (Hw e0 hq) om) <| On <| Hf (12 :: 14 :: 15 :: K2) (Sm 108 ((12, dI k) :: (14, .ptr g 0) :: (15, dB b) :: lR q n r ps L N F gl ql gn qn gf qf rm i k) (G.set q (oI (R.set k (-1))))) ?_
 have gs := set_keep (x := oI (R.set k (-1))) (fun e : q = g => by
  subst e
  rw [hq] at gs
  cases gs) gs
 have hI := hI.row (x := oI (R.set k (-1))) hq
 have hq := set_new (x := oI (R.set k (-1))) hq
 generalize G.set q (oI (R.set k (-1))) = G at gs hI hq ⊢
 have hR1 : (R.set k (-1)).length = n := by rw [zP]; exact hRn
 refine Hs <| Hs ?_
 cases b with
 | false =>
  refine Hr hxn <| Og 2 <| On <| Hy <| Ht.exit (id := 3) kr ?_
  show Q (AExit.exit 3) _
  exact hQ (.exit 3) L K (R.set k (-1)) gl ql _ _ (.inr rfl) rfl hI hL hs om hR1 hq kr
 | true =>
 refine Hr hxn <| Og 2 <| On <| Hz <| Hk <| seqH.n <| Hs <| Hr hxn <| Oo (fun h0 e0 => lq ti83 g 0 [dP eI t.fLf, dP e111 t.fBad, dP (eL e111) t.fNd] (.v (e82 t)) (Hw e0 gs)) <| Oo (fun h0 e0 => call_ok (E' := (XM 1000010).E) (h := h0) kr (Args.v (e82 t) (e82 t) kr Args.nil) (ok49 1000001 t (keyB t) (f49_eq 1000001 r t hr hstep om (zL _)) 1000010 om)) <| Og 1 <| On <| Hf (12 :: 14 :: 16 :: K2) (Sm 108 ((12, dI k) :: (14, .ptr g 0) :: (16, .v (eS (keyB t))) :: lR q n r ps L N F gl ql gn qn gf qf rm i k) G) ?_
 have endR : ∀ (j : Nat) (L' : List S82) (K' : List ByteArray) gl ql (G : List AObj) (σ : St), OI r L' K' N F gl ql gn qn gf qf rm G → G[q]? = some (oI (R.set k (-1))) → LInv r L' K' → L'[i]? = some s → L'.length ≤ L.length + 1 →
   rowB r s rest (k + 1) L' K' (R.set k (j : Int)) = (match kfind (keyB t) K 0 with
   | some n => rowB r s rest (k + 1) L K (R.set k (n : Int))
   | none => rowB r s rest (k + 1) (L ++ [t]) (K ++ [keyB t]) (R.set k (L.length : Int))) →
   Abs.forget (12 :: 17 :: K2) σ = Sm 108 ((12, dI k) :: (17, dI j) :: lR q n r ps L' N F gl ql gn qn gf qf rm i k) G → HT (cR (cR (cR (cR (cR (cR (cR BB28))))))) σ Q := by
  intro j L' K' gl ql G σ hI hq hL hs hLl hg hσ
  refine Hg (12 :: 17 :: K2) hσ <| Hr hxn <| Og 3 <| Oo (fun h0 e0 => ixI (N := n) (i := k) (Hw e0 hq) rfl hk) <| Oo (fun h0 e0 => stI (b := R.set k (-1)) (i := k) (x := j) (Hw e0 hq) om) <| Od <| hQ .normal L' K' (R.set k (j : Int)) gl ql _ _ (.inl rfl) hg (hI.row hq) hL hs hLl (by rw [zP]; exact hRn) (set_new hq) ?_
  rw [show R.set k (j : Int) = (R.set k (-1)).set k (j : Int) by rw [List.set_set]]
  kernel_rfl
 refine Hs ?_
 cases hf : kfind (keyB t) K 0 with
 | some j =>
  refine Hr hxn <| Og 2 <| Oo (fun h0 e0 => lkS1 (Hw e0 hI.m) hf) <| Og 5 <| On <| Hs <| Hs <| Hr hxn <| Og 2 <| On <| Hz <| Hk <| seqH.n ?_
  exact endR j L K gl ql G _ hI hq hL hs om (by rw [hf]) kr
 | none =>
  have hKL := hL.len
  have happ : app ti83.bytes L [t] = some (L ++ [t]) := Tg.app_ok (by decide) om
  refine Hr hxn <| Og 2 <| Oo (fun h0 e0 => lkS0 (Hw e0 hI.m) hf) <| Og 5 <| On <| Hs <| Hs <| Hr hxn <| Og 2 <| On <| Hy <| Hs <| Hr hxn <| Og 1 <| Oo (fun h0 e0 => (show (lenD TM 85 (D.unt (AG.d gl ql (L.map e82)))).map (·, h0) = some (dI K.length, h0) from by rw [hKL]; exact lg h0 85 83 ql gl e82 L)) <| Og 1 <| On <| Hf (12 :: 14 :: 16 :: 17 :: K2) (Sm 108 ((12, dI k) :: (14, .ptr g 0) :: (16, .v (eS (keyB t))) :: (17, dI K.length) :: lR q n r ps L N F gl ql gn qn gf qf rm i k) G) <| Hs <| Hr hxn <| Og 3 <| Oo (fun h0 e0 => muS (Hw e0 hI.m) hf) <| On <| Hf (12 :: 14 :: 17 :: K2) (Sm 108 ((12, dI k) :: (14, .ptr g 0) :: (17, dI K.length) :: lR q n r ps L N F gl ql gn qn gf qf rm i k) (G.set rm (oM (K ++ [keyB t])))) ?_
  have gs := set_keep (x := oM (K ++ [keyB t])) (fun e : rm = g => by
   subst e
   rw [hI.m] at gs
   cases gs) gs
  have hq := set_keep (x := oM (K ++ [keyB t])) (fun e : rm = q => by
   subst e
   rw [hI.m] at hq
   cases hq) hq
  have hI := hI.map (K ++ [keyB t])
  generalize G.set rm (oM (K ++ [keyB t])) = G at gs hI hq ⊢
  refine Hr hxn <| Og 1 <| Oo (fun h0 e0 => lq ti83 g 0 [dP eI t.fLf, dP e111 t.fBad, dP (eL e111) t.fNd] (.v (e82 t)) (Hw e0 gs)) <| Og 1 <| Oo (fun h0 e0 => app_g (T := TM) h0 85 83 ql 3 ti83 gl .nonfull e82 L [t] (L ++ [t]) happ kr kr kr kr (fun _ => rfl) (Hw e0 hI.l)) <| Og 1 <| On ?_
  exact endR K.length (L ++ [t]) (K ++ [keyB t]) (gl.app [e82 t]) G.length _ _ (hI.lst t _) (app_keep (keepO hI.l hq rfl)) (hpush _) (by rw [zJ hi]; exact hs) (by simp) (by rw [hf, hKL]) kr
set_option maxHeartbeats 4000000
theorem row28 {r : S57} {s : S82} {ps : List S48} (hr : RuOk r) {L : List S82} {K : List ByteArray} {N : List (List Int)} {F : List Bool} {gl : AG} {ql : Nat} {gn : AG} {qn : Nat} {gf : AG} {qf rm q i : Nat} {R : List Int} {G : List AObj} {goal : List S82 × List ByteArray × List Int}
  (hI : OI r L K N F gl ql gn qn gf qf rm G) (hL : LInv r L K) (hs : L[i]? = some s) (hLl : L.length ≤ 20000) (hps : ps.length ≤ 300) (hRn : R.length = ps.length) (hq : G[q]? = some (oI R)) (hg : rowB r s ps 0 L K R = goal) {Q : Post}
  (hQ : ∀ gl ql G σ, OI r goal.1 goal.2.1 N F gl ql gn qn gf qf rm G → G[q]? = some (oI goal.2.2) → Abs.forget (11 :: K1) σ = Sm 108 ((11, sI q ps.length) :: lS r ps goal.1 N F gl ql gn qn gf qf rm i) G → Q .normal σ) :
  HT J28 (Sm 108 ((11, sI q ps.length) :: lS r ps L N F gl ql gn qn gf qf rm i) G) Q := by
 have hxn := hxM 1000010
 refine Hs <| Hr hxn <| Og 1 <| Oo (fun h0 e0 => lr h0 23 49 e48 ps) <| Og 1 <| On <| Hb 2 <| Ht.gen fun Q' hQ' => ?_
 replace hQ := fun gl ql G σ h1 h2 h3 => hQ' _ _ (blkH.x (id := 2) (hQ gl ql G σ h1 h2 h3))
 clear hQ'
 obtain ⟨l0, hl0⟩ : ∃ l0, L.length = l0 := ⟨_, rfl⟩
 have hLo : L.length ≤ l0 + 0 := by omega
 rw [hl0] at hLl
 clear hl0
 refine Ht.loop (fun z σ => ∃ (k : Nat) (L : List S82) (K : List ByteArray) (R : List Int) (gl : AG) (ql : Nat) (G : List AObj), k + z = ps.length ∧ rowB r s (ps.drop k) k L K R = goal ∧ OI r L K N F gl ql gn qn gf qf rm G ∧ LInv r L K ∧ L[i]? = some s ∧ L.length ≤ l0 + k ∧ R.length = ps.length ∧ G[q]? = some (oI R) ∧
  Abs.forget K2 σ = Sm 108 (lR q ps.length r ps L N F gl ql gn qn gf qf rm i k) G) ps.length kr
  ⟨0, L, K, R, gl, ql, G, om, hg, hI, hL, hs, hLo, hRn, hq, kr⟩ ?_
 clear hI hg hL hs hRn hq hLo
 rintro z σ ⟨k, L, K, R, gl, ql, G, hz, hg, hI, hL, hs, hLo, hRn, hq, hσ⟩
 refine Hg K2 hσ ?_
 clear hσ
 refine Hs <| Hr hxn <| Og 1 <| On <| Hs <| Hd ((k : Int) < (ps.length : Int)) (fun hc => ?_) (fun hc => ?_)
 case refine_2 =>
  have hk : k = ps.length := by omega
  rw [hk, List.drop_length] at hg
  cases hg
  refine Ht.exit (id := 2) kr ?_
  exact hQ gl ql G _ hI hq kr
 have hlt : k < ps.length := by omega
 rw [zI hlt] at hg
 have hx : ps[k]? = some ps[k] := zA hlt
 generalize ps[k] = p at hg hx
 have ixp : idx ps (k : Int) = some p := by rw [idx_get]; exact hx
 refine Hk <| seqH.n <| Hs <| Hb 3 <| Hf K2 (Sm 108 (lR q ps.length r ps L N F gl ql gn qn gf qf rm i k) G) <| pair28 (rest := ps.drop (k + 1)) hr hI hL hs om ixp hlt hRn hq fun e L' K' R' gl ql G σ he hg' hI hL hs hLl' hR' hq hσ => ?_
 have next : SH (cR (cR (cR BJ28))) (lpH (fun z σ => ∃ (k : Nat) (L : List S82) (K : List ByteArray) (R : List Int) (gl : AG) (ql : Nat) (G : List AObj), k + z = ps.length ∧ rowB r s (ps.drop k) k L K R = goal ∧ OI r L K N F gl ql gn qn gf qf rm G ∧ LInv r L K ∧ L[i]? = some s ∧ L.length ≤ l0 + k ∧ R.length = ps.length ∧ G[q]? = some (oI R) ∧
  Abs.forget K2 σ = Sm 108 (lR q ps.length r ps L N F gl ql gn qn gf qf rm i k) G) z Q') .normal σ := by
  refine seqH.n <| Hg K2 hσ <| Hr hxn <| Og 2 <| Od <| ⟨z - 1, om, k + 1, L', K', R', gl, ql, G, om, by rw [hg']; exact hg, hI, hL, hs, om, hR', hq, ?_⟩
  rw [← w64_nat om]
  kernel_rfl
 rcases he with rfl | rfl
 ·exact blkH.n next
 ·exact blkH.x next
set_option maxHeartbeats 4000000
def Fin28 (o : S27 × S29) : Post := fun e σ => (e = .normal ∨ e = .ret) ∧ ∃ d, resultsD TM σ (resOf Try.prog 28) = some d ∧ Abs.frz σ.heap 6 d = some (.tuple [e27 o.1, e29 o.2])
theorem ag_arg {α : Type} (h : List AObj) (g : AG) (q : Nat) (f : α → V) (xs : List α) : argP h (AG.d g q (xs.map f)) = some (dP f xs) := by
 cases g with
 | tok => rfl
 | fl f => cases f <;> rfl
theorem ag_freed (g : AG) (q : Nat) (xs : List V) : D.freed (AG.d g q xs) = true := by cases g <;> rfl
theorem state28 {r : S57} {s : S82} {ps : List S48} (hr : RuOk r) {L : List S82} {K : List ByteArray} {N : List (List Int)} {F : List Bool} {gl : AG} {ql : Nat} {gn : AG} {qn : Nat} {gf : AG} {qf rm i : Nat} {G : List AObj}
  {L' : List S82} {K' : List ByteArray} {R : List Int} (hI : OI r L K N F gl ql gn qn gf qf rm G) (hL : LInv r L K) (hs : L[i]? = some s) (hLl : L.length ≤ 20000) (hps : ps.length ≤ 300) (hN : N.length ≤ 20000) (hF : F.length ≤ 20000) (hg : rowB r s ps 0 L K (List.replicate ps.length 0) = (L', K', R)) {Q : Post}
  (hE : 20000 < L'.length → ∀ σ, Fin28 (⟨0, [], []⟩, ⟨17, -1⟩) .ret σ → Q .ret σ)
  (hQ : L'.length ≤ 20000 → ∀ gl ql gn qn gf qf G σ, OI r L' K' (N ++ [R]) (F ++ [endsB r s]) gl ql gn qn gf qf rm G → Abs.forget K1 σ = Sm 108 (lS r ps L' (N ++ [R]) (F ++ [endsB r s]) gl ql gn qn gf qf rm i) G → Q .normal σ) :
  HT I28 (Sm 108 (lS r ps L N F gl ql gn qn gf qf rm i) G) Q := by
 have hxn := hxM 1000010
 have hi := yE hs
 have hto := rowB_to hr (hL.st i s hs) ps 0 L K (List.replicate ps.length 0) hL hi
 rw [hg] at hto
 have hRl : R.length = ps.length := by have := hto.row; rw [zV] at this; exact this
 have hs' : L'[i]? = some s := hto.old i s hs
 have hsv := hto.inv.st i s hs'
 refine Hs <| Hr hxn <| Og 1 <| Oo (fun h0 e0 => lr h0 23 49 e48 ps) <| Oo (fun h0 e0 => mkI (h := h0) (N := ps.length) om) <| Og 1 <| On <| Hf (11 :: K1) (Sm 108 ((11, sI G.length ps.length) :: lS r ps L N F gl ql gn qn gf qf rm i) (G ++ [oI (List.replicate ps.length 0)])) ?_
 have hq : (G ++ [oI (List.replicate ps.length 0)])[G.length]? = some (oI (List.replicate ps.length 0)) := mid_get G _ []
 have hI := hI.app [oI (List.replicate ps.length 0)]
 generalize G.length = q at hq ⊢
 generalize G ++ [oI (List.replicate ps.length 0)] = G at hq hI ⊢
 refine Hs <| row28 hr hI hL hs hLl hps (by simp) hq hg fun gl ql G σ hI hq hσ => ?_
 clear hL hs
 have hI : OI r L' K' N F gl ql gn qn gf qf rm G := hI
 have hq : G[q]? = some (oI R) := hq
 refine seqH.n <| Hg (11 :: K1) hσ ?_
 clear hσ
 refine Hs <| Hs ?_
 by_cases hlim : 20000 < L'.length
 ·refine Hr hxn <| Og 1 <| Oo (fun h0 e0 => lg h0 85 83 ql gl e82 L') <| Oo (fun h0 e0 => bo h0 .gtr L'.length 20000 true (by rw [gtD, decide_eq_true om])) <| On <| Hy <| Hs <| Hr hxn <| Og 1 <| Oo (fun h0 e0 => call_ok (E' := (XM 1000010).E) (h := h0) kr (Args.v (vI 17) (vI 17) kr (Args.v (vI (-1)) (vI (-1)) kr Args.nil)) (ok43 1000001 17 (-1) ⟨17, -1⟩ rfl 1000010 om)) <| Oo (fun h0 e0 => sq ti28 1 0 [dI 0, .v nilS, .v nilS] [dI 0, .v nilS, .v nilS] (.v (.agg [vI 0, nilS, nilS])) (Hw e0 hI.g1)) <| Oo (fun h0 e0 => sq ti30 2 0 [dI 0, dI 0] [dI 17, dI (-1)] (.v (e29 ⟨17, -1⟩)) (Hw (g := G.set 1 (.cells [dI 0, .v nilS, .v nilS])) e0 (set_keep (by decide) hI.g2))) <| On <| Ht.ret kr <| seqH.r <| hE hlim _ ⟨.inr rfl, ?_⟩
  have k1 : ((G.set 1 (.cells [dI 0, .v nilS, .v nilS])).set 2 (.cells [dI 17, dI (-1)]))[1]? = some (.cells [dI 0, .v nilS, .v nilS]) := set_keep (by decide) (set_new hI.g1)
  have k2 : ((G.set 1 (.cells [dI 0, .v nilS, .v nilS])).set 2 (.cells [dI 17, dI (-1)]))[2]? = some (.cells [dI 17, dI (-1)]) := set_new (set_keep (by decide) hI.g2)
  refine resC (a := 4) (b := 5) (r := 1) (s := 2) (cs := [dI 0, .v nilS, .v nilS]) (x := 17) (y := -1) kr kr kr (Eq.trans (congrArg (fun z : List AObj => z[1]?) ?_) k1) (Eq.trans (congrArg (fun z : List AObj => z[2]?) ?_) k2) rfl (fl_zero _)
  ·kernel_rfl
  ·kernel_rfl
 refine Hr hxn <| Og 1 <| Oo (fun h0 e0 => lg h0 85 83 ql gl e82 L') <| Oo (fun h0 e0 => bo h0 .gtr L'.length 20000 false (by rw [gtD, decide_eq_false om])) <| On <| Hz <| Hk <| seqH.n <| Ht.forget (11 :: K1) (Ht.st (σ' := Sm 108 ((11, .osl q 0 (R.map eI).length false) :: lS r ps L' N F gl ql gn qn gf qf rm i) G) (by rw [List.length_map, hRl]; kernel_rfl) ?_)
 refine Ht.freezeR (t := 11) (r := q) (k := 1) (es := R.map eI) kr hq <| Ht.st (σ' := Sm 108 ((11, dP eI R) :: lS r ps L' N F gl ql gn qn gf qf rm i) (G.set q .dead)) kr ?_
 have hI := hI.row (x := .dead) hq
 generalize G.set q AObj.dead = G at hI ⊢
 have happ1 : app ti62.bytes N [R] = some (N ++ [R]) := Tg.app_ok (by decide) om
 have happ2 : app ti4.bytes F [endsB r s] = some (F ++ [endsB r s]) := Tg.app_ok (by decide) om
 have ixs : idx L' (i : Int) = some s := by rw [idx_get]; exact hs'
 have hi' := yE hs'
 refine Hs <| Hr hxn <| Og 3 <| Oo (fun h0 e0 => app_g (T := TM) h0 65 62 qn 1 ti62 gn .nonfull (eL eI) N [R] (N ++ [R]) happ1 kr kr kr kr (fun _ => rfl) (Hw e0 hI.n)) <| Og 1 <| On ?_
 have hI := hI.nxt R (gn.app [eL eI R])
 refine Hf K1 (Sm 108 (lS r ps L' (N ++ [R]) F gl ql (gn.app [eL eI R]) G.length gf qf rm i) (G.set qn .dead ++ [AG.o (gn.app [eL eI R]) 1 ((N ++ [R]).map (eL eI))])) ?_
 generalize G.set qn AObj.dead ++ [AG.o (gn.app [eL eI R]) 1 ((N ++ [R]).map (eL eI))] = M at hI ⊢
 generalize G.length = qn at hI ⊢
 generalize gn.app [eL eI R] = gn at hI ⊢
 refine Hr hxn <| Og 1 <| Oo (fun h0 e0 => lq ti58 0 0 [dI r.fKn, dI r.fPr.fLx, dI r.fPr.fSf, dP e72 r.fCx] (.v (e57 r)) (Hw e0 hI.g0)) <| Og 2 <| Oo (fun h0 e0 => ix_g (T := TM) h0 85 83 3 ql gl e82 L' i s ixs kr kr (fun _ => rfl)) <| Og 1 <| Oo (fun h0 e0 => call_ok (E' := (XM 1000010).E) (h := h0) kr (Args.v (e57 r) (e57 r) kr (Args.v (e82 s) (e82 s) kr Args.nil)) (ok51 1000001 r s (endsB r s) (f51_eq 1000001 r s (zL _) (hsv.ok hr om)) 1000010 om)) <| Og 1 <| Oo (fun h0 e0 => app_g (T := TM) h0 66 4 qf 1 ti4 gf .nonfull eB F [endsB r s] (F ++ [endsB r s]) happ2 kr kr kr kr (fun _ => rfl) (Hw e0 hI.f)) <| Og 1 <| Od ?_
 exact hQ om gl ql gn qn (gf.app [eB (endsB r s)]) M.length _ _ (hI.fin _ _) kr
set_option maxHeartbeats 4000000
theorem f26_iter (m0 n : Nat) (v : List Int) (hv : v.length = n) : ∀ (m i : Nat) (l : List Int), i ≤ n → n < m + i → n ≤ 300 → l.length = n → l.take i = (numL n).take i →
  iter (fun (y : (List Int) × Int) => f26_B1 m0 v y.1 y.2) m (l, (i : Int)) = some (.inr (numL n, (n : Int)))
 | 0, i, l, h1, h2, h3, h4, h5 => by omega
 | m + 1, i, l, h1, h2, h3, h4, h5 => by
  by_cases hi : i < n
  ·have hx : l[i]? = some l[i] := zA om
   have hB : f26_B1 m0 v l (i : Int) = some (.nxt (l.set i ((i : Int) + 1), ((i + 1 : Nat) : Int))) := by
    unfold f26_B1
    rw [show decide ((i : Int) < (v.length : Int)) = true by simp [hv]; omega, idx_get, hx]
    simp only [cnd_true, bnd_some']
    rw [w64_nat om]
    have : upd l (i : Int) (((i + 1 : Nat) : Int)) = some (l.set i ((i + 1 : Nat) : Int)) := by
     unfold upd
     rw [if_pos ⟨om, om⟩, zN]
    rw [this]
    simp only [bnd_some']
    rfl
   unfold iter
   dsimp only
   rw [hB]
   refine f26_iter m0 n v hv m (i + 1) _ om om h3 (by simp [h4]) ?_
   have g : (numL n)[i]? = some ((i : Int) + 1) := numL_get hi
   rw [List.take_add_one, List.take_add_one, g, zQ om, List.take_set_of_le (zL _), h5]
  ·have e : i = n := by omega
   subst e
   have hB : f26_B1 m0 v l (i : Int) = some (.brk (l, (i : Int))) := by
    unfold f26_B1
    rw [show decide ((i : Int) < (v.length : Int)) = false by simp [hv]]
    rfl
   unfold iter
   dsimp only
   rw [hB]
   rw [zX om, zX (by rw [numL_len]; omega)] at h5
   rw [h5]
theorem f26_eq (m n : Nat) (hm : 301 ≤ m) (hn : n ≤ 300) : f26 m (n : Int) = some (numL n) := by
 unfold f26
 have : mk 8 (n : Int) (0 : Int) = some (List.replicate n 0) := by
  unfold mk
  rw [if_pos ⟨om, by rw [zN]; omega, by rw [zN]; unfold maxLen; omega⟩, zN]
 rw [this]
 simp only [bnd_some']
 rw [show (0 : Int) = ((0 : Nat) : Int) from rfl, f26_iter m n _ (by simp) m 0 _ om om hn (by simp) (by simp)]
 rfl
theorem call_okP {row : Bool} {n f0 : Nat} {ds0 : List D} {r r' : V} {f : Nat} {ds xs : List D} {h : List AObj} (hne : f ≠ f0) (hp : E.pureF f = true) (ha : Args h ds xs) (hF : Fn Try.prog E n f xs r') : callD (XP row n f0 ds0 r).E (XP row n f0 ds0 r).Γ f ds h = some (.v r', h) := by
 have hp : (XP row n f0 ds0 r).E.pureF f = true := by show (E.pureF f || f == f0) = true; simp [hp]
 have hg : ∀ vs, (XP row n f0 ds0 r).Γ f vs [] = run Try.prog E n f vs [] := fun vs => if_neg fun e => hne e.1
 obtain ⟨d, h', h1, h2⟩ := hF
 obtain ⟨a1, a2⟩ := ha.spec
 simp only [callD, hp, if_true, a1, hg, h1, h2, a2, Bool.true_or]
def ofOne (m n : Nat) (g : Option (List (List Int) × List Bool)) : Option (S27 × S29) := match g with
 | none => some (⟨0, [], []⟩, ⟨17, -1⟩)
 | some (N, F) => f47 m (numL n) N F
abbrev lZ (ps : List S48) (L : List S82) (gl : AG) (ql : Nat) (gn : AG) (qn : Nat) (gf : AG) (qf rm : Nat) : List (Nat × D) :=
 [(1, dP e48 ps), (2, .ptr 0 0), (4, .ptr 1 0), (5, .ptr 2 0), (6, AG.d gl ql (L.map e82)), (7, .map rm), (8, AG.d gn qn []), (9, AG.d gf qf [])]
variable {o : S27 × S29} {ps : List S48} {r : S57}
theorem main28 (hr : RuOk r) (hps : ps.length ≤ 300) {fuel m : Nat} {g : Option (List (List Int) × List Bool)} {L : List S82} {K : List ByteArray} {gl : AG} {ql : Nat} {gn : AG} {qn : Nat} {gf : AG} {qf rm : Nat} {G : List AObj}
  (hI : OI r L K [] [] gl ql gn qn gf qf rm G) (hL : LInv r L K) (hLl : L.length ≤ 20000) (hL0 : 0 < L.length) (hg : oneB r ps m 0 L K [] [] = some g) (ho : ofOne fuel ps.length g = some o) (hm : m ≤ 100000) :
  HT A28 (Sm 108 (lZ ps L gl ql gn qn gf qf rm) G) (Fin28 o) := by
 have hxn := hxM 1000010
 have hok : ∀ N F, g = some (N, F) → OkT N F ps.length := fun N F e => by
  subst e
  exact oneB_ok hr m 0 L K [] [] (N, F) hL rfl rfl (Nat.zero_le _) hLl (fun x hx => by simp at hx) hL0 hg
 refine Hs <| Hs <| Hr hxn <| Og 1 <| On <| Hb 0 <| Ht.loop (fun z σ => ∃ (i : Nat) (L : List S82) (K : List ByteArray) (N : List (List Int)) (F : List Bool) (gl : AG) (ql : Nat) (gn : AG) (qn : Nat) (gf : AG) (qf : Nat) (G : List AObj), i + z = m ∧ oneB r ps z i L K N F = some g ∧ OI r L K N F gl ql gn qn gf qf rm G ∧ LInv r L K ∧ L.length ≤ 20000 ∧ N.length = i ∧ F.length = i ∧ i ≤ L.length ∧
  Abs.forget K1 σ = Sm 108 (lS r ps L N F gl ql gn qn gf qf rm i) G) m kr
  ⟨0, L, K, [], [], gl, ql, gn, qn, gf, qf, G, om, hg, hI, hL, hLl, rfl, rfl, om, kr⟩ ?_
 clear hI hg hL hLl hL0
 rintro z σ ⟨i, L, K, N, F, gl, ql, gn, qn, gf, qf, G, hz, hg, hI, hL, hLl, hN, hF, hiL, hσ⟩
 refine Hg K1 hσ ?_
 clear hσ
 cases z with
 | zero => cases hg
 | succ z =>
 have hg : (match L[i]? with
  | none => some (some (N, F))
  | some s => match rowB r s ps 0 L K (List.replicate ps.length 0) with
   | (L', K', R) => if 20000 < L'.length then some none else oneB r ps z (i + 1) L' K' (N ++ [R]) (F ++ [endsB r s])) = some g := hg
 refine Hs <| Hs <| Hr hxn <| Og 2 <| Oo (fun h0 e0 => lg h0 85 83 ql gl e82 L) <| Og 1 <| On <| Hd ((i : Int) < (L.length : Int)) (fun hc => ?_) (fun hc => ?_)
 case refine_2 =>
  rw [zS om] at hg
  cases hg
  have ho : f47 fuel (numL ps.length) N F = some o := ho
  have hxp := hxP false 1000010 is27 (call27 fuel hps (hok N F rfl) ho)
  refine Ht.exit (id := 0) kr ?_
  show SH (cR A28) (Fin28 o) .normal _
  refine seqH.n <| Hf K1 (Sm 108 (lS r ps L N F gl ql gn qn gf qf rm i) G) <| Hs <| Hr hxp <| Og 1 <| Oo (fun h0 e0 => lr h0 23 49 e48 ps) <| Oo (fun h0 e0 => call_okP (row := false) (n := 1000010) (f0 := 27) (ds0 := [dP eI (numL ps.length), dP (eL eI) N, dP eB F]) (r := .tuple [e27 o.1, e29 o.2]) (f := 26) (ds := [dI ps.length]) (xs := [dI ps.length]) (h := h0) (by decide) kr (Args.v (vI ps.length) (vI ps.length) kr Args.nil) (ok26 1000001 ps.length (numL ps.length) (f26_eq _ _ om hps) 1000010 om)) <| Og 2 <| Oo (fun h0 e0 => callP (row := false) (n := 1000010) (f0 := 27) (ds0 := [dP eI (numL ps.length), dP (eL eI) N, dP eB F]) (ds := [dP eI (numL ps.length), AG.d gn qn (N.map (eL eI)), AG.d gf qf (F.map eB)]) (h := h0) (r := .tuple [e27 o.1, e29 o.2]) (by simp only [allM, ag_arg]; rfl) (by simp only [List.all_cons, ag_freed]; rfl) rfl) <| Og 2 <| Oo (fun h0 e0 => sq ti28 1 0 [dI 0, .v nilS, .v nilS] (mCs o.1) (.v (e27 o.1)) (Hw e0 hI.g1)) <| Oo (fun h0 e0 => sq ti30 2 0 [dI 0, dI 0] [dI o.2.fCo, dI o.2.fIx] (.v (e29 o.2)) (Hw (g := G.set 1 (.cells (mCs o.1))) e0 (set_keep (by decide) hI.g2))) <| On <| Ht.ret kr ?_
  have k1 : ((G.set 1 (.cells (mCs o.1))).set 2 (.cells [dI o.2.fCo, dI o.2.fIx]))[1]? = some (.cells (mCs o.1)) := set_keep (by decide) (set_new hI.g1)
  have k2 : ((G.set 1 (.cells (mCs o.1))).set 2 (.cells [dI o.2.fCo, dI o.2.fIx]))[2]? = some (.cells [dI o.2.fCo, dI o.2.fIx]) := set_new (set_keep (by decide) hI.g2)
  exact ⟨.inr rfl, two_res (N := 108) (a := 4) (b := 5) (r := 1) (s := 2) (L := (G.set 1 (.cells (mCs o.1))).set 2 (.cells [dI o.2.fCo, dI o.2.fIx])) kr kr kr kr k1 k2⟩
 have hlt : i < L.length := by omega
 have hs : L[i]? = some L[i] := zA hlt
 rw [hs] at hg
 generalize L[i] = s at hg hs
 dsimp only at hg
 have hto := rowB_to hr (hL.st i s hs) ps 0 L K (List.replicate ps.length 0) hL hlt
 rcases hrow : rowB r s ps 0 L K (List.replicate ps.length 0) with ⟨L', K', R⟩
 rw [hrow] at hg hto
 dsimp only at hg
 have hlo : L.length ≤ L'.length := hto.lo
 have hinv : LInv r L' K' := hto.inv
 refine Hk <| seqH.n <| Hs <| Hb 1 <| Hf K1 (Sm 108 (lS r ps L N F gl ql gn qn gf qf rm i) G) <| state28 hr hI hL hs hLl hps om om hrow (fun hlim σ hfin => ?_) (fun hlim gl ql gn qn gf qf G σ hI hσ => ?_)
 ·rw [if_pos hlim] at hg
  cases hg
  have ho : (⟨⟨0, [], []⟩, ⟨17, -1⟩⟩ : S27 × S29) = o := zC ho
  subst ho
  refine blkH.r <| seqH.r ?_
  show lpH _ _ _ .ret _
  exact hfin
 ·rw [if_neg om] at hg
  refine blkH.n <| seqH.n <| Hg K1 hσ <| Hr hxn <| Og 3 <| Od <| ⟨z, om, i + 1, L', K', N ++ [R], F ++ [endsB r s], gl, ql, gn, qn, gf, qf, G, om, hg, hI, hinv, om, by simp [hN], by simp [hF], om, ?_⟩
  rw [← w64_nat om]
  kernel_rfl
theorem wk28 (m : Nat) (hr : RuOk r) (hps : ps.length ≤ 300) (h : f28 m r ps = some o) : HT C28 (startIn Try.prog 28 [.v (e57 r), dP e48 ps] []) (Fin28 o) := by
 have hxn := hxM 1000010
 have h0r := hr.n
 have hxp := hxP false 1000010 is48 (call48 r om)
 obtain ⟨g, hg, ho⟩ : ∃ g, oneB r ps 20002 0 [Tw.start r] [keyB (Tw.start r)] [] [] = some g ∧ ofOne m ps.length g = some o := by
  unfold f28 at h
  split at h
  ·cases h
  ·rename_i hh; exact ⟨none, hh, h⟩
  ·rename_i N F hh; exact ⟨some (N, F), hh, h⟩
 refine Hs <| Hr hxn <| Og 3 <| On <| Hf [1, 2, 4, 5] (Sm 108 [(1, dP e48 ps), (2, .ptr 0 0), (4, .ptr 1 0), (5, .ptr 2 0)] [w57 r, z28, z30]) <| Hs <| Hr hxp <| Og 1 <| Oo (fun h0 e0 => callP (row := false) (n := 1000010) (f0 := 48) (ds0 := [.v (e57 r)]) (ds := [.v (e57 r)]) (h := h0) (r := e82 (Tw.start r)) rfl rfl rfl) <| Og 2 <| On <| Hf [1, 2, 4, 5, 6] (Sm 108 [(1, dP e48 ps), (2, .ptr 0 0), (4, .ptr 1 0), (5, .ptr 2 0), (6, AG.d (.fl .nonfull) 4 ([Tw.start r].map e82))] [w57 r, z28, z30]) <| Hs <| Hr hxn <| Og 2 <| Oo (fun h0 e0 => ix_g (T := TM) h0 85 83 3 4 (.fl .nonfull) e82 [Tw.start r] 0 (Tw.start r) rfl kr kr (fun _ => rfl)) <| Og 1 <| Oo (fun h0 e0 => call_ok (E' := (XM 1000010).E) (h := h0) kr (Args.v (e82 (Tw.start r)) (e82 (Tw.start r)) kr Args.nil) (ok49 1000001 (Tw.start r) (keyB (Tw.start r)) (f49_eq 1000001 r (Tw.start r) hr (sinv_start r) om (zL _)) 1000010 om)) <| Og 3 <| On <| Hf [1, 2, 4, 5, 6, 7] (Sm 108 [(1, dP e48 ps), (2, .ptr 0 0), (4, .ptr 1 0), (5, .ptr 2 0), (6, AG.d (.fl .nonfull) 4 ([Tw.start r].map e82)), (7, .map 3)] [w57 r, z28, z30, oM [keyB (Tw.start r)]]) <| Hs <| Hr hxn <| Og 1 <| On <| Hs <| Hr hxn <| Og 1 <| On <| Ht.pad (Ht.pad ?_)
 refine Hf [1, 2, 4, 5, 6, 7, 8, 9] (Sm 108 (lZ ps [Tw.start r] (.fl .nonfull) 4 (.fl .nil) 4 (.fl .nil) 5 3) [w57 r, z28, z30, oM [keyB (Tw.start r)], .dead, .dead]) <| main28 hr hps (L := [Tw.start r]) (K := [keyB (Tw.start r)]) ⟨rfl, rfl, rfl, rfl, rfl, rfl, rfl, by decide⟩ ⟨rfl, fun j s hs => ?_⟩ (by simp) (by simp) hg ho om
 match j, hs with
 | 0, hs => cases hs; exact sinv_start r
theorem is28 : Is Try.prog 28 := ⟨Try.f28, Try.func28, kr, kr⟩
theorem call28 (m : Nat) (hr : RuOk r) (hps : ps.length ≤ 300) (h : f28 m r ps = some o) : CallT False Try.prog 28 [.v (e57 r), dP e48 ps] [] fun d h' => d = .v (.tuple [e27 o.1, e29 o.2]) ∧ h' = [] :=
 callN (c := bodyOf Try.prog 28) (N := 6) Try.func28 kr TM_ok ((wk28 m hr hps h).mono fun e σ hf => hf)
end Go.Abs.Ty
