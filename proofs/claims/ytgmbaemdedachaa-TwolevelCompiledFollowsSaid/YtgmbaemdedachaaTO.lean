import Derived.Test.YtgmbaemdedachaaTL
import Derived.Test.YtgmbaemdedachaaAbsRw
namespace Go.Abs.Tg
open Go.Sort Go.Proofs Go.Abs.Ta Go.Abs.Tb Go.Abs.Tc Go.Abs.Te Go.Abs.Tf
set_option linter.unusedVariables false
set_option linter.unusedSimpArgs false
set_option linter.unnecessarySimpa false
set_option maxRecDepth 100000
set_option maxHeartbeats 4000000
def Fin47 (o : S27 × S29) : Post := fun e σ => (e = .normal ∨ e = .ret) ∧ ∃ d, resultsD TM σ (resOf Try.prog 47) = some d ∧ Abs.frz σ.heap 6 d = some (.tuple [e27 o.1, e29 o.2])
theorem res47 {σ : St} {cs : List D} {a b : Int} {xs : List V} (h6 : σ.tmps.getD 6 .undef = .ptr 0 0) (h7 : σ.tmps.getD 7 .undef = .ptr 1 0) (g0 : σ.heap[0]? = some (.cells cs)) (g1 : σ.heap[1]? = some (.cells [dI a, dI b])) (hl : cs.length = 3) (hf : FL σ.heap 4 cs xs) :
  ∃ d, resultsD TM σ (resOf Try.prog 47) = some d ∧ Abs.frz σ.heap 6 d = some (.tuple [.agg xs, .agg [vI a, vI b]]) := by
 have hr : resOf Try.prog 47 = [.cell 6 28, .cell 7 30] := by kernel_rfl
 have h28 : TM 28 = some ti28 := rfl
 have h30 : TM 30 = some ti30 := rfl
 have c1 : cut cs 0 ti28.size = some cs := by
  show (if 0 + 3 ≤ cs.length then some ((cs.drop 0).take 3) else none) = _
  rw [if_pos om, List.drop_zero, zX om]
 have l1 : loadD ti28 σ.heap (.ptr 0 0) = some (mkAgg cs) := by
  simp only [loadD, g0, c1, Option.bind_some]
  rfl
 have l2 : loadD ti30 σ.heap (.ptr 1 0) = some (.v (.agg [vI a, vI b])) := by
  simp only [loadD, g1]
  rfl
 refine ⟨mkTuple [mkAgg cs, .v (.agg [vI a, vI b])], ?_, tup_frz _ (.d _ _ (mkAgg_frz hf) (mkAgg_nt _) (.v _ _ rfl rfl .nil))⟩
 rw [hr]
 simp only [resultsD, allM, resultD, h28, h30, h6, h7, l1, l2]
theorem fl_zero (h : List AObj) : FL h 4 [dI 0, .v nilS, .v nilS] [vI 0, .sl .plain [], .sl .plain []] := .cons _ _ rfl rfl (.cons _ _ rfl rfl (.cons _ _ rfl rfl .nil))
variable {A : List S52} {F : List S54} {G : List AObj} {O P S cls labels : List Int} {c qa qf qo qp ro : Nat} {count : Int} {fin : List Bool} {ga gf go : AG} {rows : List (List Int)}
theorem arcs47 (n : Nat) {s : Int} {i : Nat} {row : List Int} {goal : List Int × List Int × List S52}
  (hs : idx rows s = some row) (hrow : row.length ≤ 20000) (hg : arcsF cls labels i row 0 O P A = some goal) (hI : MI G c qp P go qo O ro ga qa A gf qf F) {Q : Post}
  (hQ : ∀ go qo ga qa G σ, MI G c qp goal.2.1 go qo goal.1 ro ga qa goal.2.2 gf qf F → Abs.forget (30 :: KX) σ = Sm 284 ((30, dI s) :: lX labels rows fin cls S count c qp go qo goal.1 ro i) G → Q .normal σ) :
  HT LA2 (Sm 284 ((30, dI s) :: lX labels rows fin cls S count c qp go qo O ro i) G) Q := by
 have hxn := hxM n
 refine Hs <| Hr hxn <| Og 2 <| Oo (fun h0 e0 => xr h0 65 62 1 (eL eI) rows s row hs) <| Og 1 <| Oo (fun h0 e0 => lr h0 62 3 eI row) <| Og 1 <| On <| Hb 16 <| Ht.loop (fun z σ => ∃ (k : Nat) (go : AG) (qo : Nat) (O P : List Int) (ga : AG) (qa : Nat) (A : List S52) (G : List AObj), k + z = row.length ∧ arcsF cls labels i (row.drop k) k O P A = some goal ∧ MI G c qp P go qo O ro ga qa A gf qf F ∧
  Abs.forget (30 :: 210 :: 211 :: 212 :: KX) σ = Sm 284 ((30, dI s) :: (210, dP eI row) :: (211, dI row.length) :: (212, dI k) :: lX labels rows fin cls S count c qp go qo O ro i) G) row.length kr
  ⟨0, go, qo, O, P, ga, qa, A, G, om, hg, hI, kr⟩ ?_
 clear hI hg
 rintro z σ ⟨k, go, qo, O, P, ga, qa, A, G, hk, hg, hI, hσ⟩
 refine Hg (30 :: 210 :: 211 :: 212 :: KX) hσ ?_
 clear hσ
 refine Hs <| Hr hxn <| Og 1 <| On <| Hs <| Hd ((k : Int) < (row.length : Int)) (fun hc => ?_) (fun hc => ?_)
 case refine_2 =>
  have hk : k = row.length := by omega
  rw [hk, List.drop_length] at hg
  cases hg
  refine Ht.exit (id := 16) kr ?_
  show blkH 16 Q (AExit.exit 16) _
  exact blkH.x (hQ go qo ga qa G _ hI kr)
 have hlt : k < row.length := by omega
 rw [zI hlt] at hg
 have hx : row[k]? = some row[k] := zA hlt
 generalize row[k] = to at hg hx
 refine Hk <| seqH.n <| Hs <| Hb 17 <| Hf (30 :: 210 :: 211 :: 212 :: KX) (Sm 284 ((30, dI s) :: (210, dP eI row) :: (211, dI row.length) :: (212, dI k) :: lX labels rows fin cls S count c qp go qo O ro i) G) <| arc47 n hx hg om hI fun e go qo O P ga qa A G σ he hg hI hσ => ?_
 have next : SH (cR (cR (cR (cL (cL (cR LA2)))))) (lpH (fun z σ => ∃ (k : Nat) (go : AG) (qo : Nat) (O P : List Int) (ga : AG) (qa : Nat) (A : List S52) (G : List AObj), k + z = row.length ∧ arcsF cls labels i (row.drop k) k O P A = some goal ∧ MI G c qp P go qo O ro ga qa A gf qf F ∧
  Abs.forget (30 :: 210 :: 211 :: 212 :: KX) σ = Sm 284 ((30, dI s) :: (210, dP eI row) :: (211, dI row.length) :: (212, dI k) :: lX labels rows fin cls S count c qp go qo O ro i) G) z (blkH 16 Q)) .normal σ := by
  refine seqH.n <| Hg (30 :: 210 :: 211 :: 212 :: KX) hσ <| Hr hxn <| Og 2 <| Od <| ⟨z - 1, om, k + 1, go, qo, O, P, ga, qa, A, G, om, hg, hI, ?_⟩
  rw [← w64_nat om]
  kernel_rfl
 rcases he with rfl | rfl
 ·exact blkH.n next
 ·exact blkH.x next
theorem main47 (n : Nat) {m : Nat} {goal : S27 × S29}
  (hm : m ≤ 1000) (hrows : ∀ r ∈ rows, r.length ≤ 20000) (hg : outF rows fin cls labels S m 0 O P A F = some goal) (hO : O.length < 100000000) (hF : F.length ≤ 0) (hn : 1 ≤ n) (hI : MI G c qp P go qo O ro ga qa A gf qf F) :
  HT (cR (cR (cR RG47))) (Sm 284 ((23, dP eI S) :: (25, sI qp c) :: (27, AG.d go qo (O.map eI)) :: (28, .ptr ro 0) :: lW labels rows fin cls count) G) (Fin47 goal) := by
 have hxn := hxM n
 have gt : ∀ (a b : Int) (h : List AObj), (binD TM .gtr 3 (D.unt (dI a)) (D.unt (dI b))).map (·, h) = some (dB (decide (a > b)), h) := fun a b h => rfl
 refine Hs <| Hs <| Hr hxn <| Og 1 <| On <| Hb 14 <| Ht.loop (fun z σ => ∃ (i : Nat) (go : AG) (qo : Nat) (O P : List Int) (ga : AG) (qa : Nat) (A : List S52) (gf : AG) (qf : Nat) (F : List S54) (G : List AObj), i + z = m ∧ outF rows fin cls labels S z i O P A F = some goal ∧ O.length < 100000000 ∧ F.length ≤ i ∧ MI G c qp P go qo O ro ga qa A gf qf F ∧
  Abs.forget KX σ = Sm 284 (lX labels rows fin cls S count c qp go qo O ro i) G) m kr
  ⟨0, go, qo, O, P, ga, qa, A, gf, qf, F, G, om, hg, hO, hF, hI, kr⟩ ?_
 clear hI hg hO hF
 rintro z σ ⟨i, go, qo, O, P, ga, qa, A, gf, qf, F, G, hz, hg, hO, hF, hI, hσ⟩
 refine Hg KX hσ ?_
 clear hσ
 cases z with
 | zero => cases hg
 | succ z =>
 have hg : (match O[i]? with
  | none => some ((⟨O.length, A, F⟩ : S27), (⟨0, 0⟩ : S29))
  | some o => match idx S o with
   | none => none
   | some s => match idx rows s, idx fin s with
    | some row, some f => match arcsF cls labels i row 0 O P A with
     | none => none
     | some (O', P', A') => if 400 < O'.length ∨ 2000 < A'.length then some (⟨0, [], []⟩, ⟨17, -1⟩)
      else outF rows fin cls labels S z (i + 1) O' P' A' (if f then F ++ [⟨i, 0⟩] else F)
    | _, _ => none) = some goal := hg
 refine Hs <| Hs <| Hr hxn <| Og 2 <| Oo (fun h0 e0 => lg h0 62 3 qo go eI O) <| Og 1 <| On <| Hd ((i : Int) < (O.length : Int)) (fun hc => ?_) (fun hc => ?_)
 case refine_2 =>
  rw [zS om] at hg
  cases hg
  refine Ht.exit (id := 14) kr ?_
  show SH (cR (cR (cR (cR RG47)))) (Fin47 _) .normal _
  refine seqH.n <| Hf KX (Sm 284 (lX labels rows fin cls S count c qp go qo O ro i) G) <| Hs <| Hr hxn <| Og 1 <| Oo (fun h0 e0 => lg h0 62 3 qo go eI O) <| Og 1 <| Oo (fun h0 e0 => sq ti3 ro 0 [dI 0, AG.d ga qa (A.map e52), AG.d gf qf (F.map e54)] [dI O.length, AG.d ga qa (A.map e52), AG.d gf qf (F.map e54)] (dI O.length) (Hw e0 hI.m)) <| On ?_
  have hro : (G.set ro (.cells [dI O.length, AG.d ga qa (A.map e52), AG.d gf qf (F.map e54)]))[ro]? = some (.cells [dI O.length, AG.d ga qa (A.map e52), AG.d gf qf (F.map e54)]) := set_new hI.m
  have hz2 : Z (G.set ro (.cells [dI O.length, AG.d ga qa (A.map e52), AG.d gf qf (F.map e54)])) := hI.z.set hI.r2 _
  refine Hf [6, 7, 28] (Sm 284 [(6, .ptr 0 0), (7, .ptr 1 0), (28, .ptr ro 0)] (G.set ro (.cells [dI O.length, AG.d ga qa (A.map e52), AG.d gf qf (F.map e54)]))) ?_
  generalize G.set ro (.cells [dI O.length, AG.d ga qa (A.map e52), AG.d gf qf (F.map e54)]) = M at hro hz2 ⊢
  have h30 : (M.set 0 (.cells [dI O.length, AG.d ga qa (A.map e52), AG.d gf qf (F.map e54)]))[1]? = some z30 := set_keep om hz2.g1
  refine Hs <| Hr hxn <| Oo (fun h0 e0 => lq ti28 ro 0 [dI O.length, AG.d ga qa (A.map e52), AG.d gf qf (F.map e54)] (mkAgg [dI O.length, AG.d ga qa (A.map e52), AG.d gf qf (F.map e54)]) (Hw e0 hro)) <| Og 1 <| Oo (fun h0 e0 => st_s (i := ti28) (r := 0) (off := 0) (cs := [dI 0, .v nilS, .v nilS]) (cs' := [dI O.length, AG.d ga qa (A.map e52), AG.d gf qf (F.map e54)]) (ds := [dI O.length, AG.d ga qa (A.map e52), AG.d gf qf (F.map e54)]) (Hw e0 hz2.g0) rfl (all_sc rfl (all_sc (AG.sc _ _ _) (all_sc (AG.sc _ _ _) rfl))) rfl) <| Oo (fun h0 e0 => sq ti30 1 0 [dI 0, dI 0] [dI 0, dI 0] (.v (.agg [vI 0, vI 0])) (Hw (g := M.set 0 (.cells [dI O.length, AG.d ga qa (A.map e52), AG.d gf qf (F.map e54)])) e0 h30)) <| On <| Hf [6, 7] (Sm 284 [(6, .ptr 0 0), (7, .ptr 1 0)] ((M.set 0 (.cells [dI O.length, AG.d ga qa (A.map e52), AG.d gf qf (F.map e54)])).set 1 z30)) <| Ht.ret kr ?_
  have k0 : ((M.set 0 (.cells [dI O.length, AG.d ga qa (A.map e52), AG.d gf qf (F.map e54)])).set 1 z30)[0]? = some (.cells [dI O.length, AG.d ga qa (A.map e52), AG.d gf qf (F.map e54)]) := set_keep om (set_new hz2.g0)
  have k1 : ((M.set 0 (.cells [dI O.length, AG.d ga qa (A.map e52), AG.d gf qf (F.map e54)])).set 1 z30)[1]? = some (.cells [dI 0, dI 0]) := set_new h30
  generalize ((M.set 0 (.cells [dI O.length, AG.d ga qa (A.map e52), AG.d gf qf (F.map e54)])).set 1 z30) = L at k0 k1
  exact ⟨.inr rfl, res47 (σ := Sm 284 [(6, .ptr 0 0), (7, .ptr 1 0)] L) kr kr k0 k1 rfl (.cons _ _ rfl rfl (.cons _ _ (AG.frz _ _ _ _ _) (AG.na _ _ _) (.cons _ _ (AG.frz _ _ _ _ _) (AG.na _ _ _) .nil)))⟩
 have hlt : i < O.length := by omega
 obtain ⟨o, ho⟩ : ∃ y, O[i]? = some y := ⟨_, zA hlt⟩
 rw [ho] at hg
 dsimp only at hg
 obtain ⟨s, hs⟩ : ∃ y, idx S o = some y := by
  cases h : idx S o with
  | none => rw [h] at hg; cases hg
  | some y => exact ⟨y, rfl⟩
 rw [hs] at hg
 dsimp only at hg
 obtain ⟨row, hrow⟩ : ∃ y, idx rows s = some y := by
  cases h : idx rows s with
  | none => rw [h] at hg; cases hg
  | some y => exact ⟨y, rfl⟩
 obtain ⟨f, hf⟩ : ∃ y, idx fin s = some y := by
  cases h : idx fin s with
  | none => rw [hrow, h] at hg; cases hg
  | some y => exact ⟨y, rfl⟩
 rw [hrow, hf] at hg
 dsimp only at hg
 obtain ⟨g, hga⟩ : ∃ y, arcsF cls labels i row 0 O P A = some y := by
  cases h : arcsF cls labels i row 0 O P A with
  | none => rw [h] at hg; cases hg
  | some y => exact ⟨y, rfl⟩
 rw [hga] at hg
 have hg : (if 400 < g.1.length ∨ 2000 < g.2.2.length then some ((⟨0, [], []⟩ : S27), (⟨17, -1⟩ : S29))
  else outF rows fin cls labels S z (i + 1) g.1 g.2.1 g.2.2 (if f then F ++ [⟨i, 0⟩] else F)) = some goal := hg
 have hrl : row.length ≤ 20000 := hrows row (zE (idx_some hrow).2.1)
 have ixo : idx O (i : Int) = some o := by rw [idx_get]; exact ho
 refine Hk <| seqH.n <| Hs <| Hb 15 <| Hs <| Hr hxn <| Og 3 <| Oo (fun h0 e0 => ix_g (T := TM) h0 62 3 1 qo go eI O i o ixo kr kr (fun _ => rfl)) <| Og 1 <| Oo (fun h0 e0 => xr h0 62 3 1 eI S o s hs) <| Og 2 <| On <| Hf (30 :: KX) (Sm 284 ((30, dI s) :: lX labels rows fin cls S count c qp go qo O ro i) G) <| Hs <| arcs47 n hrow hrl hga hI fun go qo ga qa G σ hI hσ => ?_
 refine seqH.n <| Hg (30 :: KX) hσ ?_
 clear hσ
 have tail : ∀ (gf : AG) (qf : Nat) (F' : List S54) (G : List AObj) σ, F' = (if f then F ++ [⟨i, 0⟩] else F) → MI G c qp g.2.1 go qo g.1 ro ga qa g.2.2 gf qf F' → Abs.forget KX σ = Sm 284 (lX labels rows fin cls S count c qp go qo g.1 ro i) G →
   HT (cR (cR (cR BM47))) σ (blkH 15 (SH (cR (cR (cL (cL (cR LM47))))) (lpH (fun z σ => ∃ (i : Nat) (go : AG) (qo : Nat) (O P : List Int) (ga : AG) (qa : Nat) (A : List S52) (gf : AG) (qf : Nat) (F : List S54) (G : List AObj), i + z = m ∧ outF rows fin cls labels S z i O P A F = some goal ∧ O.length < 100000000 ∧ F.length ≤ i ∧ MI G c qp P go qo O ro ga qa A gf qf F ∧
  Abs.forget KX σ = Sm 284 (lX labels rows fin cls S count c qp go qo O ro i) G) (z + 1) (blkH 14 (SH (cR (cR (cR (cR RG47)))) (Fin47 goal)))))) := by
  intro gf qf F' G σ hF' hI hσ
  refine Hg KX hσ ?_
  clear hσ
  have lim : ∀ σ : St, (400 < g.1.length ∨ 2000 < g.2.2.length) → Abs.forget [6, 7] σ = Sm 284 [(6, .ptr 0 0), (7, .ptr 1 0)] G → HT (cL (cR (cR (cR (cR BM47))))) σ (fun e σ => e = .ret ∧ Fin47 goal e σ) := by
   intro σ hl hσ
   rw [if_pos hl] at hg
   cases hg
   refine Hg [6, 7] hσ ?_
   have h30 : (G.set 0 z28)[1]? = some z30 := set_keep om hI.z.g1
   refine Hs <| Hr hxn <| Og 1 <| Oo (fun h0 e0 => call_ok (E' := (XM n).E) (h := h0) kr (Args.v (vI 17) (eI 17) kr (Args.v (vI (-1)) (eI (-1)) kr Args.nil)) (ok46 0 17 (-1) ⟨17, -1⟩ kr n hn)) <| Oo (fun h0 e0 => sq ti28 0 0 [dI 0, .v nilS, .v nilS] [dI 0, .v nilS, .v nilS] (.v (.agg [vI 0, nilS, nilS])) (Hw e0 hI.z.g0)) <| Oo (fun h0 e0 => sq ti30 1 0 [dI 0, dI 0] [dI 17, dI (-1)] (.v (e29 ⟨17, -1⟩)) (Hw (g := G.set 0 z28) e0 h30)) <| On <| Hf [6, 7] (Sm 284 [(6, .ptr 0 0), (7, .ptr 1 0)] ((G.set 0 z28).set 1 (.cells [dI 17, dI (-1)]))) <| Ht.ret kr ?_
   have k0 : ((G.set 0 z28).set 1 (.cells [dI 17, dI (-1)]))[0]? = some z28 := set_keep om (set_new hI.z.g0)
   have k1 : ((G.set 0 z28).set 1 (.cells [dI 17, dI (-1)]))[1]? = some (.cells [dI 17, dI (-1)]) := set_new h30
   generalize ((G.set 0 z28).set 1 (.cells [dI 17, dI (-1)])) = L at k0 k1
   exact ⟨rfl, .inr rfl, res47 (σ := Sm 284 [(6, .ptr 0 0), (7, .ptr 1 0)] L) kr kr k0 k1 rfl (fl_zero _)⟩
  refine Hs ?_
  by_cases h1 : 400 < g.1.length
  ·refine Hr hxn <| Og 1 <| Oo (fun h0 e0 => lg h0 62 3 qo go eI g.1) <| Oo (fun h0 e0 => bo h0 .gtr g.1.length 400 true (by rw [gt, decide_eq_true om])) <| Og 6 <| On <| Hy <| Ht.mono (lim _ (.inl h1) kr) fun e σ he => ?_
   obtain ⟨rfl, he⟩ := he
   exact he
  ·refine Hr hxn <| Og 1 <| Oo (fun h0 e0 => lg h0 62 3 qo go eI g.1) <| Oo (fun h0 e0 => bo h0 .gtr g.1.length 400 false (by rw [gt, decide_eq_false om])) <| Og 2 <| Oo (fun h0 e0 => lq ti25 ro 1 [dI 0, AG.d ga qa (g.2.2.map e52), AG.d gf qf (F'.map e54)] (AG.d ga qa (g.2.2.map e52)) (Hw e0 hI.m)) <| Oo (fun h0 e0 => lg h0 25 53 qa ga e52 g.2.2) <| Og 2 <| On <| Hd ((g.2.2.length : Int) > 2000) (fun hc => ?_) (fun hc => ?_)
   ·refine Ht.mono (lim _ (.inr om) kr) fun e σ he => ?_
    obtain ⟨rfl, he⟩ := he
    exact he
   ·rw [if_neg om] at hg
    refine Hk <| blkH.n <| seqH.n <| Hf KX (Sm 284 (lX labels rows fin cls S count c qp go qo g.1 ro i) G) <| Hr hxn <| Og 3 <| Od <| ⟨z, om, i + 1, go, qo, g.1, g.2.1, ga, qa, g.2.2, gf, qf, F', G, om, by rw [hF']; exact hg, om, ?_, hI, ?_⟩
    ·rw [hF']
     split
     ·simp; omega
     ·omega
    ·rw [← w64_nat om]
     kernel_rfl
 refine Hs <| Hs <| Hr hxn <| Og 2 <| Oo (fun h0 e0 => xr h0 66 4 1 eB fin s f hf) <| Og 1 <| On ?_
 cases f with
 | false =>
  refine Hz <| Hk <| seqH.n ?_
  exact tail gf qf F G _ rfl hI kr
 | true =>
  refine Hy ?_
  have happ : app ti55.bytes F [(⟨i, 0⟩ : S54)] = some (F ++ [⟨i, 0⟩]) := app_ok (by decide) om
  have hro : (G.set qf .dead ++ [AG.o (gf.app [e54 ⟨i, 0⟩]) 2 ((F ++ [(⟨i, 0⟩ : S54)]).map e54)])[ro]? = some (.cells [dI 0, AG.d ga qa (g.2.2.map e52), AG.d gf qf (F.map e54)]) :=
   app_keep (set_keep (fun e => by have := hI.m; rw [← e, hI.f] at this; exact o_cells (zC this)) hI.m)
  refine Hr hxn <| Og 1 <| Oo (fun h0 e0 => lq ti26 ro 2 [dI 0, AG.d ga qa (g.2.2.map e52), AG.d gf qf (F.map e54)] (AG.d gf qf (F.map e54)) (Hw e0 hI.m)) <| Og 3 <| Oo (fun h0 e0 => app_g (T := TM) h0 26 55 qf 2 ti55 gf .nonfull e54 F [⟨i, 0⟩] (F ++ [⟨i, 0⟩]) happ kr kr kr kr (fun _ => rfl) (Hw e0 hI.f)) <| Og 1 <| Oo (fun h0 e0 => st_l (i := ti26) (r := ro) (off := 2) (cs := [dI 0, AG.d ga qa (g.2.2.map e52), AG.d gf qf (F.map e54)]) (cs' := [dI 0, AG.d ga qa (g.2.2.map e52), AG.d (gf.app [e54 ⟨i, 0⟩]) G.length ((F ++ [(⟨i, 0⟩ : S54)]).map e54)]) (x := AG.d (gf.app [e54 ⟨i, 0⟩]) G.length ((F ++ [(⟨i, 0⟩ : S54)]).map e54)) (Hw (g := G.set qf .dead ++ [AG.o (gf.app [e54 ⟨i, 0⟩]) 2 ((F ++ [(⟨i, 0⟩ : S54)]).map e54)]) e0 hro) rfl (AG.one _ _ _) rfl) <| On ?_
  exact tail (gf.app [e54 ⟨i, 0⟩]) G.length (F ++ [⟨i, 0⟩]) _ _ rfl (hI.fin ⟨i, 0⟩ _) kr
set_option maxHeartbeats 4000000
theorem refn_len {next : List (List Int)} {fin : List Bool} : ∀ {m : Nat} {cl : List Int} {cnt : Nat} {o : List Int × Int}, refn next fin m cl cnt = some o → o.1.length = next.length
 | 0, cl, cnt, o, h => by cases h
 | m + 1, cl, cnt, o, h => by
  unfold refn at h
  split at h
  ·cases h
  ·rename_i K R hr
   have := (ren_len hr).1
   split at h
   ·cases h; simpa using this
   ·exact refn_len h
variable {fin : List Bool}
theorem f66_len {m : Nat} {next : List (List Int)} {o : List Int × Int} (h : f66 m next fin = some o) : o.1.length = next.length ∧ next.length ≤ 20000 ∧ ∀ r ∈ next, r.length ≤ 20000 := by
 unfold f66 at h
 split at h
 ·rename_i hb
  exact ⟨refn_len h, hb.1, fun r hr => by simpa using zZ.1 hb.2 r hr⟩
 ·cases h
theorem tail47 (n m : Nat) (hn : 1 ≤ n) {labels : List Int} {rows : List (List Int)} {goal : S27 × S29} (hg : f47b m labels rows fin = some goal) {G : List AObj} (hz : Z G) :
  HT RE47 (Sm 284 [(0, dP eI labels), (2, dP eB fin), (6, .ptr 0 0), (7, .ptr 1 0), (16, dP (eL eI) rows)] G) (Fin47 goal) := by
 have hxn := hxM n
 unfold f47b at hg
 obtain ⟨⟨cls, count⟩, h66⟩ : ∃ y, f66 m rows fin = some y := by
  cases h : f66 m rows fin with
  | none => rw [h] at hg; cases hg
  | some y => exact ⟨y, rfl⟩
 rw [h66] at hg
 dsimp only at hg
 split at hg
 case isFalse => cases hg
 rename_i hcb
 obtain ⟨c, rfl⟩ : ∃ c : Nat, count = (c : Int) := ⟨count.toNat, om⟩
 rw [zN] at hg
 have hc2 : c ≤ 20000 := by omega
 obtain ⟨hcl, hrl, hrows⟩ := f66_len h66
 obtain ⟨S, hS⟩ : ∃ y, somes cls 0 (List.replicate c 0) = some y := by
  cases h : somes cls 0 (List.replicate c 0) with
  | none => rw [h] at hg; cases hg
  | some y => exact ⟨y, rfl⟩
 obtain ⟨c0, hc0⟩ : ∃ y, cls[0]? = some y := by
  cases h : cls[0]? with
  | none => rw [hS, h] at hg; cases hg
  | some y => exact ⟨y, rfl⟩
 rw [hS, hc0] at hg
 dsimp only at hg
 obtain ⟨P, hP⟩ : ∃ y, upd (List.replicate c (-1)) c0 0 = some y := by
  cases h : upd (List.replicate c (-1)) c0 0 with
  | none => rw [h] at hg; cases hg
  | some y => exact ⟨y, rfl⟩
 rw [hP] at hg
 have hg : outF rows fin cls labels S 1000 0 [c0] P [] [] = some goal := hg
 obtain ⟨p0, p1, rfl⟩ := upd_some hP
 obtain ⟨j, hj⟩ : ∃ j : Nat, c0 = (j : Int) := ⟨c0.toNat, om⟩
 have e1 : c0.toNat = j := by omega
 rw [e1] at p1 hg
 rw [zV] at p1
 have ix0 : idx cls 0 = some c0 := by
  have : idx cls ((0 : Nat) : Int) = cls[0]? := idx_get ..
  exact this.trans hc0
 have hxp := hxP false n is66 (call66 m rows fin (cls, (c : Int)) h66)
 refine Hs <| Hr hxp <| Og 2 <| Oo (fun h0 e0 => callP (row := false) (n := n) (f0 := 66) (ds0 := [dP (eL eI) rows, dP eB fin]) (ds := [dP (eL eI) rows, dP eB fin]) (h := h0) (r := .tuple [eL eI cls, vI c]) rfl rfl rfl) <| Og 5 <| On <| Hs <| Hr hxn <| Og 1 <| Oo (fun h0 e0 => mkI (h := h0) (N := c) hc2) <| Og 1 <| On <| Hf (23 :: KW) (Sm 284 ((23, sI G.length c) :: lW labels rows fin cls c) (G ++ [oI (List.replicate c 0)])) ?_
 have hq : (G ++ [oI (List.replicate c 0)])[G.length]? = some (oI (List.replicate c 0)) := mid_get _ _ _
 have hz := hz.app [oI (List.replicate c 0)]
 generalize G ++ [oI (List.replicate c 0)] = M at hq hz ⊢
 generalize G.length = qs at hq ⊢
 refine Hs <| some47 n hcl hrl hS hz hq (by simp) fun G σ hz hq hSl hσ => ?_
 refine seqH.n <| Hg (23 :: KW) hσ ?_
 clear hσ
 rw [show sI qs c = .osl qs 0 (S.map eI).length false by rw [List.length_map, hSl]]
 refine Ht.freezeR (t := 23) (r := qs) (k := 1) (es := S.map eI) kr hq <| Ht.st (σ' := Sm 284 ((23, dP eI S) :: lW labels rows fin cls c) (G.set qs .dead)) kr ?_
 have hz := hz.set (hz.pos hq) .dead
 generalize G.set qs .dead = G at hz ⊢
 refine Hs <| Hr hxn <| Og 1 <| Oo (fun h0 e0 => mkI (h := h0) (N := c) hc2) <| Og 1 <| On <| Hf (23 :: 25 :: KW) (Sm 284 ((23, dP eI S) :: (25, sI G.length c) :: lW labels rows fin cls c) (G ++ [oI (List.replicate c 0)])) ?_
 have hq : (G ++ [oI (List.replicate c 0)])[G.length]? = some (oI (List.replicate c 0)) := mid_get _ _ _
 have hz := hz.app [oI (List.replicate c 0)]
 generalize G ++ [oI (List.replicate c 0)] = M at hq hz ⊢
 generalize G.length = qp at hq ⊢
 refine Hs <| place47 n hc2 hz hq fun G σ hz hq hσ => ?_
 refine seqH.n <| Hg (23 :: 25 :: KW) hσ ?_
 clear hσ
 refine Hs <| Hr hxn <| Og 1 <| Oo (fun h0 e0 => xr h0 62 3 1 eI cls 0 c0 ix0) <| Og 3 <| On <| Hs <| Hr hxn <| Og 2 <| Oo (fun h0 e0 => xr h0 62 3 1 eI cls 0 c0 ix0) <| Og 1 <| Oo (fun h0 e0 => ixI (N := c) (i := j) (Hw e0 hq) hj p1) <| Oo (fun h0 e0 => stI (i := j) (x := 0) (Hw e0 hq) (by simpa using p1)) <| On <| Hs <| Hr hxn <| Og 1 <| On ?_
 have hz2 := hz.set (hz.pos hq) (oI ((List.replicate c (-1)).set j 0))
 have hq2 : (G.set qp (oI ((List.replicate c (-1)).set j 0)))[qp]? = some (oI ((List.replicate c (-1)).set j 0)) := set_new hq
 generalize G.set qp (oI ((List.replicate c (-1)).set j 0)) = M at hz2 hq2 ⊢
 refine Ht.forget (23 :: 25 :: 27 :: 28 :: KW) (Ht.pad (Ht.st (σ' := Sm 284 ((23, dP eI S) :: (25, sI qp c) :: (27, AG.d (.fl .nonfull) (M ++ [z28]).length ([c0].map eI)) :: (28, .ptr M.length 0) :: lW labels rows fin cls c) ((M ++ [z28]) ++ [.dead])) kr ?_))
 have h2 : 2 ≤ M.length := by have := yE hz2.g1; omega
 exact main47 n (zL _) hrows hg (by simp) (by simp) hn (ga := .fl .nil) (qa := (M ++ [z28]).length) (gf := .fl .nil) (qf := (M ++ [z28]).length)
  ⟨(hz2.app _).app _, app_keep (app_keep hq2), by simp, mid_get _ _ _, app_keep (mid_get _ _ _), h2, mid_get _ _ _, mid_get _ _ _⟩
theorem bkAll_len {fin : List Bool} {m : Nat} : ∀ {rows : List (List Int)} {s : Nat} {B : List (List Int)} {T : List Int} {g : List (List Int) × List Int}, bkAll fin rows s B T = some g → T.length ≤ s → s + rows.length ≤ 20000 → g.2.length ≤ 20000
 | [], s, B, T, g, h, h1, h2 => by cases h; show T.length ≤ 20000; simp at h2; omega
 | row :: rest, s, B, T, g, h, h1, h2 => by
  unfold bkAll at h
  split at h
  ·cases h
  ·split at h
   ·cases h
   ·split at h
    ·refine bkAll_len (m := m) h ?_ (by simp at h2; omega)
     split
     ·simp; omega
     ·omega
    ·cases h
theorem wk47 (n m : Nat) (hn : 1 ≤ n) (labels : List Int) (next : List (List Int)) (fin : List Bool) (o : S27 × S29) (h : f47 m labels next fin = some o) :
  HT (bodyOf Try.prog 47) (startIn Try.prog 47 [dP eI labels, dP (eL eI) next, dP eB fin] []) (Fin47 o) := by
 have hxn := hxM n
 unfold f47 at h
 split at h
 case isFalse => cases h
 rename_i hb
 obtain ⟨hN2, hall⟩ := hb
 have hrows : ∀ r ∈ next, r.length ≤ 20000 := fun r hr => by simpa using zZ.1 hall r hr
 obtain ⟨N, hN⟩ : ∃ N, next.length = N := ⟨_, rfl⟩
 rw [hN] at h hN2
 obtain ⟨⟨B, T⟩, hB⟩ : ∃ y, bkAll fin next 0 (List.replicate N []) [] = some y := by
  cases h' : bkAll fin next 0 (List.replicate N []) [] with
  | none => rw [h'] at h; cases h
  | some y => exact ⟨y, rfl⟩
 rw [hB] at h
 dsimp only at h
 obtain ⟨Us, hU⟩ : ∃ y, dfs B m T (List.replicate N false) = some y := by
  cases h' : dfs B m T (List.replicate N false) with
  | none => rw [h'] at h; cases h
  | some y => exact ⟨y, rfl⟩
 rw [hU] at h
 dsimp only at h
 have hTl : T.length ≤ 20000 := bkAll_len (m := 0) hB (by simp) om
 have lenN : ∀ h0 : List AObj, (lenD TM 65 (D.unt (dP (eL eI) next))).map (·, h0) = some (dI N, h0) := fun h0 => by
  rw [← hN]; exact lr h0 65 62 (eL eI) next
 show HT C47 _ _
 refine Hs <| Hr hxn <| Og 2 <| On <| Hs <| Hr hxn <| Og 1 <| Oo (fun h0 e0 => lenN h0) <| Oo (fun h0 e0 => mkL (h := h0) (N := N) hN2) <| Og 1 <| On <| Hs <| Hr hxn <| Og 1 <| On <| Hf KB (Sm 284 (lB labels next fin N (.v nilS)) [z28, z30, .cells (List.replicate N (.v nilS))]) <| Hs <| all47 n hN hN2 hrows hB (d := .v nilS) (T := []) ⟨⟨rfl, rfl⟩, ⟨fun _ => 0, List.replicate N (.v nilS), rfl, by simp, fun i l hi => ?_, fun i l hi hl => ?_, fun i j l l' hi hj hl hl' he => ?_⟩, by simp, .inl ⟨rfl, rfl⟩⟩ fun d G σ hI hσ => ?_
 ·rw [zU] at hi ⊢
  split at hi
  ·rename_i hlt
   cases hi
   rw [if_pos hlt]; rfl
  ·cases hi
 ·rw [zU] at hi
  split at hi
  ·cases hi; exact absurd rfl hl
  ·cases hi
 ·rw [zU] at hi
  split at hi
  ·cases hi; exact absurd rfl hl
  ·cases hi
 refine seqH.n <| Hg KB hσ ?_
 clear hσ
 refine Hs <| Hr hxn <| Og 1 <| Oo (fun h0 e0 => lenN h0) <| Oo (fun h0 e0 => mkB (h := h0) (N := N) hN2) <| Og 1 <| On ?_
 obtain ⟨ps, C, hBk⟩ := hI.bk
 have hI2 : P2 (G ++ [oB (List.replicate N false)]) N B d T G.length (List.replicate N false) := ⟨⟨hI.z.app _, ⟨ps, C, hBk.app _⟩, hI.len, hI.td.app _⟩, mid_get _ _ _, by simp⟩
 have hne : ∀ q, d = sI q T.length → q ≠ G.length := fun q e => by
  rcases hI.td with ⟨h1, _⟩ | ⟨q', h1, h2⟩
  ·rw [h1] at e; cases e
  ·rw [h1] at e
   cases e
   have := yE h2
   omega
 refine Hf KU (Sm 284 (lU labels next fin N d G.length) (G ++ [oB (List.replicate N false)])) ?_
 generalize G ++ [oB (List.replicate N false)] = M at hI2 ⊢
 generalize G.length = qu at hI2 hne ⊢
 refine Hs <| dfs47 n m hN2 hU om hI2 hne fun G d T σ hI hσ => ?_
 refine seqH.n <| Hg KU hσ ?_
 clear hσ
 have eq0 : ∀ h0 : List AObj, (binD TM .eql 3 (D.unt (dI N)) (D.unt (dI 0))).map (·, h0) = some (dB ((N : Int) == 0), h0) := fun _ => rfl
 have early : ∀ σ : St, o = (⟨0, [], []⟩, ⟨0, 0⟩) → Abs.forget [6, 7] σ = Sm 284 [(6, .ptr 0 0), (7, .ptr 1 0)] G → HT (cL (cR (cL RC47))) σ (fun e σ => e = .ret ∧ Fin47 o e σ) := by
  intro σ ho hσ
  refine Hg [6, 7] hσ ?_
  have hz := hI.p.z
  have h30 : (G.set 0 z28)[1]? = some z30 := set_keep om hz.g1
  refine Hs <| Hr hxn <| Og 2 <| Oo (fun h0 e0 => sq ti28 0 0 [dI 0, .v nilS, .v nilS] [dI 0, .v nilS, .v nilS] (.v (.agg [vI 0, nilS, nilS])) (Hw e0 hz.g0)) <| Oo (fun h0 e0 => sq ti30 1 0 [dI 0, dI 0] [dI 0, dI 0] (.v (.agg [vI 0, vI 0])) (Hw (g := G.set 0 z28) e0 h30)) <| On <| Hf [6, 7] (Sm 284 [(6, .ptr 0 0), (7, .ptr 1 0)] ((G.set 0 z28).set 1 z30)) <| Ht.ret kr ?_
  have k0 : ((G.set 0 z28).set 1 z30)[0]? = some z28 := set_keep om (set_new hz.g0)
  have k1 : ((G.set 0 z28).set 1 z30)[1]? = some z30 := set_new h30
  generalize ((G.set 0 z28).set 1 z30) = L at k0 k1
  rw [ho]
  exact ⟨rfl, .inr rfl, res47 (σ := Sm 284 [(6, .ptr 0 0), (7, .ptr 1 0)] L) kr kr k0 k1 rfl (fl_zero _)⟩
 refine Hs <| Hs ?_
 cases hU0 : Us[0]? with
 | none =>
  rw [hU0] at h
  have hN0 : N = 0 := by
   have := List.getElem?_eq_none_iff.1 hU0
   have := hI.lu
   omega
  subst hN0
  refine Hr hxn <| Og 1 <| Oo (fun h0 e0 => lenN h0) <| Og 7 <| On <| Hy <| Ht.mono (early _ (zC h).symm kr) fun e σ he => ?_
  obtain ⟨rfl, he⟩ := he
  exact he
 | some u0 =>
  rw [hU0] at h
  have hN0 : 0 < N := by
   have := yE hU0
   have := hI.lu
   omega
  have eq1 : ∀ h0 : List AObj, (binD TM .eql 3 (D.unt (dI N)) (D.unt (dI 0))).map (·, h0) = some (dB false, h0) := fun h0 => by
   rw [eq0, show ((N : Int) == 0) = false by simp; omega]
  refine Hr hxn <| Og 1 <| Oo (fun h0 e0 => lenN h0) <| Oo (fun h0 e0 => eq1 h0) <| Og 2 <| Oo (fun h0 e0 => ixB (N := N) (i := 0) (Hw e0 hI.u) rfl hN0) <| Oo (fun h0 e0 => ldB (Hw e0 hI.u) hU0) <| Og 2 <| On ?_
  cases u0 with
  | false =>
   refine Hy <| Ht.mono (early _ (zC h).symm kr) fun e σ he => ?_
   obtain ⟨rfl, he⟩ := he
   exact he
  | true =>
   refine Hz ?_
   dsimp only at h
   obtain ⟨rows, hrw⟩ : ∃ y, cutAll Us next = some y := by
    cases h' : cutAll Us next with
    | none => rw [h'] at h; cases h
    | some y => exact ⟨y, rfl⟩
   rw [hrw] at h
   have h : f47b m labels rows fin = some o := h
   refine Hk <| seqH.n <| Ht.forget [0, 1, 2, 6, 7, 14] (Ht.st (σ' := Sm 284 [(0, dP eI labels), (1, dP (eL eI) next), (2, dP eB fin), (6, .ptr 0 0), (7, .ptr 1 0), (14, .osl qu 0 (Us.map eB).length false)] G) (by rw [List.length_map, hI.lu]; kernel_rfl) ?_)
   refine Ht.freezeR (t := 14) (r := qu) (k := 1) (es := Us.map eB) kr hI.u <| Ht.st (σ' := Sm 284 (lV labels next fin Us) (G.set qu .dead)) kr ?_
   have hz := hI.p.z.set (hI.p.z.pos hI.u) .dead
   generalize G.set qu .dead = G at hz ⊢
   refine Hs <| Hr hxn <| Og 1 <| Oo (fun h0 e0 => lenN h0) <| Oo (fun h0 e0 => mkL (h := h0) (N := N) hN2) <| Og 1 <| On ?_
   have h2 : 2 ≤ G.length := by have := yE hz.g1; omega
   refine Hf (16 :: KV) (Sm 284 ((16, sI G.length N) :: lV labels next fin Us) (G ++ [.cells (List.replicate N (.v nilS))])) <| Hs <| rows47 n hN hN2 hrows hrw (q := G.length) (b := G.length + 1) ⟨hz.app _, ⟨by rw [← cC_zero]; exact mid_get _ _ _, fun t r hr => (by simp at hr), om, h2⟩, by simp⟩ fun G' σ hI' hlen hσ => ?_
   refine seqH.n <| Hg (16 :: KV) hσ ?_
   clear hσ
   have hT4 := hI'.t
   rw [← hlen] at hT4
   rw [← hlen]
   refine Ht.freezeT (t := 16) kr hT4 <| Hf [0, 2, 6, 7, 16] (Sm 284 [(0, dP eI labels), (2, dP eB fin), (6, .ptr 0 0), (7, .ptr 1 0), (16, dP (eL eI) rows)] (loH G')) ?_
   exact tail47 n m hn h hI'.z.lo
theorem is47 : Is Try.prog 47 := ⟨Try.f47, Try.func47, kr, kr⟩
theorem call47 (m : Nat) (labels : List Int) (next : List (List Int)) (fin : List Bool) (o : S27 × S29) (h : f47 m labels next fin = some o) : CallT False Try.prog 47 [dP eI labels, dP (eL eI) next, dP eB fin] [] fun d h' => d = .v (.tuple [e27 o.1, e29 o.2]) ∧ h' = [] :=
 callN (c := bodyOf Try.prog 47) Try.func47 kr TM_ok (wk47 1 m (zL _) labels next fin o h)
end Go.Abs.Tg
