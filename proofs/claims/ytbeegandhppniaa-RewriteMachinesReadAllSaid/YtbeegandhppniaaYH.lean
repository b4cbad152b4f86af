import Derived.Test.YtbeegandhppniaaYD
import Derived.Test.YtbeegandhppniaaAbsXs
import Derived.Test.YtbeegandhppniaaYT
namespace Go.Abs.Ye
open Go.Sort Go.Proofs Go.Abs.Ya Go.Abs.Yb Go.Abs.Yc Go.Abs.Yd
set_option linter.unusedVariables false
set_option linter.unusedSimpArgs false
set_option linter.unnecessarySimpa false
set_option maxRecDepth 100000
set_option maxHeartbeats 4000000
theorem lays34 {n : Nat} (hn : 1 ≤ n) : Lays (XM n).E (XM n).Γ 34 := by
 intro ds h d h' hd
 have e := callD_own (P := Try.prog) (E := E) (E' := (XM n).E) (n := n) (f := 34) (ds := ds) (h := h) (F := clnF 1 8) (r := clnF 1 8 ds h) (by kernel_rfl) (by kernel_rfl) (by kernel_rfl) rfl hn
 have hd2 : clnF 1 8 ds h = some (d, h') := by rw [← e]; exact hd
 clear hd e
 unfold clnF at hd2
 split at hd2
 case h_2 => cases hd2
 rename_i fl xs
 split at hd2
 case isFalse => cases hd2
 obtain ⟨_, rfl⟩ := Prod.mk.inj (Option.some.inj hd2)
 refine ⟨fun r o hr _ => app_keep hr, fun r o hr hm => ?_⟩
 rcases Nat.lt_or_ge r h.length with hlt | hge
 ·rw [List.getElem?_append_left hlt] at hr; exact hr
 ·rw [List.getElem?_append_right hge] at hr
  cases hz : r - h.length with
  | zero =>
   rw [hz] at hr
   have hr : some (AG.o (AG.of .full xs) 1 xs) = some o := hr
   cases hr
   cases xs <;> cases hm
  | succ z => rw [hz] at hr; cases hr
theorem appA (h : List AObj) {q : Nat} {A : List S53} {a : S53} (hA : A.length < 1000000) (hq : A ≠ [] → h[q]? = some (oA A)) : appendD TM true 26 h (rA q A) (.v (.sl .nonfull [e53 a])) = some (rA h.length (A ++ [a]), kil q A h ++ [oA (A ++ [a])]) := by
 cases A with
 | nil => exact row_n (T := TM) (g := .nil) h 26 54 ti54 .nonfull e53 [a] [a] (app_some _ [] [a] (by show (0 + 1) * 40 ≤ _; omega) (by show 0 + 1 ≤ _; omega)) (by kernel_rfl) (by kernel_rfl) (by kernel_rfl) (by kernel_rfl) (fun _ => rfl)
 | cons a0 A => exact row_app (T := TM) (g := .nil) h 26 54 q ti54 .nonfull e53 (a0 :: A) [a] ((a0 :: A) ++ [a]) (app_some _ _ _ (by show ((a0 :: A).length + 1) * 40 ≤ _; omega) (by show (a0 :: A).length + 1 ≤ _; omega)) (by kernel_rfl) (by kernel_rfl) (by kernel_rfl) (by kernel_rfl) (fun _ => rfl) (hq (List.cons_ne_nil _ _))
def addH (q : Nat) (A : List S53) (a : S53) (st : Int) (fd : D) (G : List AObj) : List AObj := (kil q A G ++ [oA (A ++ [a])]).set 3 (mC st G.length (A ++ [a]) fd)
theorem _root_.Go.Abs.Yd.FInv.add {b L W q A st qf F G} (h : FInv b L W q A st qf F G) (hG : 6 ≤ G.length) (a : S53) : FInv b L W G.length (A ++ [a]) st qf F (addH q A a st (rF qf F) G) := by
 have k : ∀ (j : Nat) (o : AObj), j ≠ 3 → (A ≠ [] → q ≠ j) → G[j]? = some o → (addH q A a st (rF qf F) G)[j]? = some o := fun j o h3 hq ho => by
  refine set_keep (Ne.symm h3) (app_keep ?_)
  rw [kil_get hq]; exact ho
 have k6 : ∀ (j : Nat) (o : AObj), j ≠ 3 → j < 6 → G[j]? = some o → (addH q A a st (rF qf F) G)[j]? = some o := fun j o h3 hj ho => k j o h3 (fun e => by have := h.q6 e; omega) ho
 refine ⟨k6 0 _ (by omega) (by omega) h.g0, k6 1 _ (by omega) (by omega) h.g1, k6 2 _ (by omega) (by omega) h.g2, ⟨?_, fun _ => ?_, fun _ => by omega⟩, k6 4 _ (by omega) (by omega) h.g4, k6 5 _ (by omega) (by omega) h.g5, fun _ => hG, h.f6, fun e => k qf _ (by have := h.f6 e; omega) (fun ea => Ne.symm (h.qq ea e)) (h.hf e)⟩
 ·exact List.getElem?_set_self (by simp [kil_len]; omega)
 ·refine set_keep (by omega) ?_
  rw [List.getElem?_append_right (by simp [kil_len])]
  simp [kil_len]
theorem add_len (q : Nat) (A : List S53) (a : S53) (st : Int) (fd : D) (G : List AObj) : (addH q A a st fd G).length = G.length + 1 := by simp [addH, kil_len]
noncomputable def C15 : Code := bodyOf Try.prog 15
noncomputable abbrev T15 : Code := cR (cR (cR (cR C15)))
noncomputable abbrev LP1 : Code := cL (cR (cL T15))
noncomputable abbrev LB1 : Code := cL LP1
noncomputable abbrev B1 : Code := cL (cL (cR (cR LB1)))
noncomputable abbrev M8 : Code := cR (cR B1)
abbrev clo : D := .func 29 [] [.ptr 5 0, .ptr 3 0, .ptr 0 0, .ptr 1 0]
abbrev KM : List Nat := [3, 4, 6, 7, 8, 9, 24, 25, 26]
abbrev Sm1 (M : List S79) (j : Int) (G : List AObj) : St := Sm 116 [(3, .ptr 0 0), (4, .ptr 1 0), (6, .ptr 2 0), (7, .ptr 3 0), (8, .ptr 5 0), (9, clo), (24, dP e79 M), (25, dI M.length), (26, dI j)] G
abbrev Sm2 (M : List S79) (j : Int) (p : Nat) (tl : List Int) (G : List AObj) : St := Sm 116 [(3, .ptr 0 0), (4, .ptr 1 0), (6, .ptr 2 0), (7, .ptr 3 0), (8, .ptr 5 0), (9, clo), (11, .ptr p 0), (12, dP eI tl), (24, dP e79 M), (25, dI M.length), (26, dI j)] G
abbrev cV (v : S79) : AObj := .cells [dI v.fFrom, dI v.fLabel, dI v.fTo, dP eI v.fOut]
theorem wait15 (n m : Nat) (hn : m + 2 ≤ n) {b : S45} {L : List S75} {W : List Int} {q : Nat} {A : List S53} {st : Int} {qf : Nat} {F : List S58} {G : List AObj} (hI : FInv b L W q A st qf F G) {M : List S79} {j : Nat} {v : S79} (hv : M[j]? = some v) {i : Nat} (hi : v.fFrom = (i : Int)) {p : S75} (hp : L[i]? = some p)
  {wt : Int} (hw : f32 m b p = some wt) {tl : List Int} (ht : f31 m b p wt = some tl) {Q : Post} (hQ : Ht False Try.prog M8 (Sm2 M j G.length tl (G ++ [cV v])) Q) : Ht False Try.prog B1 (Sm1 M j G) Q := by
 have hxn := hxM n
 have ix : idx M (j : Int) = some v := by rw [idx_get]; exact hv
 have ip : idx L v.fFrom = some p := by rw [hi, idx_get]; exact hp
 refine Ht.seq (by kernel_rfl) ?_
 refine Ht.region hxn (by kernel_rfl) ?_
 refine Ops.one' 1 (fun h0 e0 => ix_r (T := TM) h0 49 80 4 .plain e79 M j v ix (by kernel_rfl) (by kernel_rfl) (fun _ => rfl)) (by kernel_rfl) (by kernel_rfl) ?_
 refine Ops.seg' 2 3 (by kernel_rfl) ?_
 refine Ops.one' 4 (fun h0 e0 => stc (i := ti80) (h := h0) (r := G.length) (off := 0) (cs := [dI 0, dI 0, dI 0, .v (.sl .nil [])]) (cs' := [dI v.fFrom, dI v.fLabel, dI v.fTo, dP eI v.fOut]) (x := .v (e79 v)) (hq_of (g := G ++ [.cells [dI 0, dI 0, dI 0, .v (.sl .nil [])]]) (e0.trans (by kernel_rfl)) (mid_get G _ _)) rfl rfl) (by kernel_rfl) (by kernel_rfl) ?_
 refine Ops.done (by kernel_rfl) ?_
 refine seqH.n ?_
 refine Ht.forget (11 :: KM) (Ht.st (σ' := Sm 116 [(3, .ptr 0 0), (4, .ptr 1 0), (6, .ptr 2 0), (7, .ptr 3 0), (8, .ptr 5 0), (9, clo), (11, .ptr G.length 0), (24, dP e79 M), (25, dI M.length), (26, dI j)] (G ++ [cV v])) (by rw [← mid_set G (.cells [dI 0, dI 0, dI 0, .v (.sl .nil [])]) (cV v) []]; kernel_rfl) ?_)
 have hK := hI.app [cV v]
 have hz : (G ++ [cV v])[G.length]? = some (cV v) := mid_get _ _ _
 generalize G ++ [cV v] = K at hK hz hQ ⊢
 generalize G.length = g at hz hQ ⊢
 refine Ht.seq (by kernel_rfl) ?_
 refine Ht.region hxn (by kernel_rfl) ?_
 refine Ops.one' 1 (fun h0 e0 => ldc (i := ti44) (h := h0) (r := 0) (off := 0) (cs := [.vptr (bc b)]) (d := .vptr (bc b)) (hq_of (g := K) (e0.trans (by kernel_rfl)) hK.g0) rfl) (by kernel_rfl) (by kernel_rfl) ?_
 refine Ops.one' 2 (fun h0 e0 => ldc (i := ti48) (h := h0) (r := 1) (off := 0) (cs := [dP e75 L]) (d := dP e75 L) (hq_of (g := K) (e0.trans (by kernel_rfl)) hK.g1) rfl) (by kernel_rfl) (by kernel_rfl) ?_
 refine Ops.seg' 1 3 (by kernel_rfl) ?_
 refine Ops.one' 4 (fun h0 e0 => ldc (i := ti3) (h := h0) (r := g) (off := 0) (cs := [dI v.fFrom, dI v.fLabel, dI v.fTo, dP eI v.fOut]) (d := dI v.fFrom) (hq_of (g := K) (e0.trans (by kernel_rfl)) hz) rfl) (by kernel_rfl) (by kernel_rfl) ?_
 refine Ops.one' 5 (fun h0 e0 => ix_r (T := TM) h0 48 76 2 .plain e75 L v.fFrom p ip (by kernel_rfl) (by kernel_rfl) (fun _ => rfl)) (by kernel_rfl) (by kernel_rfl) ?_
 refine Ops.seg' 1 6 (by kernel_rfl) ?_
 refine Ops.one' 7 (fun h0 e0 => ldc (i := ti44) (h := h0) (r := 0) (off := 0) (cs := [.vptr (bc b)]) (d := .vptr (bc b)) (hq_of (g := K) (e0.trans (by kernel_rfl)) hK.g0) rfl) (by kernel_rfl) (by kernel_rfl) ?_
 refine Ops.one' 8 (fun h0 e0 => ldc (i := ti48) (h := h0) (r := 1) (off := 0) (cs := [dP e75 L]) (d := dP e75 L) (hq_of (g := K) (e0.trans (by kernel_rfl)) hK.g1) rfl) (by kernel_rfl) (by kernel_rfl) ?_
 refine Ops.seg' 1 9 (by kernel_rfl) ?_
 refine Ops.one' 10 (fun h0 e0 => ldc (i := ti3) (h := h0) (r := g) (off := 0) (cs := [dI v.fFrom, dI v.fLabel, dI v.fTo, dP eI v.fOut]) (d := dI v.fFrom) (hq_of (g := K) (e0.trans (by kernel_rfl)) hz) rfl) (by kernel_rfl) (by kernel_rfl) ?_
 refine Ops.one' 11 (fun h0 e0 => ix_r (T := TM) h0 48 76 2 .plain e75 L v.fFrom p ip (by kernel_rfl) (by kernel_rfl) (fun _ => rfl)) (by kernel_rfl) (by kernel_rfl) ?_
 refine Ops.seg' 1 12 (by kernel_rfl) ?_
 refine Ops.one' 13 (fun h0 e0 => call_ok (E' := (XM n).E) (h := h0) (by kernel_rfl) (Args.vp (bc b) (Args.v (.agg [vI p.fFit, vI p.fSince]) (e75 p) (by kernel_rfl) Args.nil)) (ok32 m b p wt hw n (by omega))) (by kernel_rfl) (by kernel_rfl) ?_
 refine Ops.one' 14 (fun h0 e0 => call_ok (E' := (XM n).E) (h := h0) (by kernel_rfl) (Args.vp (bc b) (Args.v (.agg [vI p.fFit, vI p.fSince]) (e75 p) (by kernel_rfl) (Args.v (vI wt) (eI wt) (by kernel_rfl) Args.nil))) (ok31 m b p wt tl ht n (by omega))) (by kernel_rfl) (by kernel_rfl) ?_
 refine Ops.seg' 1 15 (by kernel_rfl) ?_
 refine Ops.done (by kernel_rfl) ?_
 refine seqH.n ?_
 exact Ht.forget (11 :: 12 :: KM) (Ht.st (by kernel_rfl) hQ)
def chk (ops : Array Oper) (i j f : Nat) (b : Bool) : Bool := match ops[i]?, ops[j]? with
 | some x, some y => x.apart ops y && (if b then isLoad x && callOf y == some f else isLoad y && callOf x == some f)
 | _, _ => false
theorem chk_lc {ops : Array Oper} {i j f : Nat} (h : chk ops i j f true = true) {x y : Oper} (hx : ops[i]? = some x) (hy : ops[j]? = some y) : x.apart ops y = true ∧ isLoad x = true ∧ callOf y = some f := by
 unfold chk at h
 rw [hx, hy] at h
 simpa using h
theorem chk_cl {ops : Array Oper} {i j f : Nat} (h : chk ops i j f false = true) {x y : Oper} (hx : ops[i]? = some x) (hy : ops[j]? = some y) : x.apart ops y = true ∧ isLoad y = true ∧ callOf x = some f := by
 unfold chk at h
 rw [hx, hy] at h
 simpa using h
theorem bsub {x b : Bool} (h : x = b) (h0 : List AObj) : (some (D.v (.bool x), h0) : Option (D × List AObj)) = some (D.v (.bool b), h0) := by rw [h]
theorem test15 (n m : Nat) (hn : m + 3 ≤ n) {b : S45} {L : List S75} {W : List Int} {q : Nat} {A : List S53} {st : Int} {qf : Nat} {F : List S58} {G : List AObj} (hI : FInv b L W q A st qf F G) {M : List S79} {j g : Nat} {v : S79} (hz : G[g]? = some (cV v)) {tl : List Int} (htl : tl.length < 100000000) {c : Bool}
  (hc : tl = [] ∧ c = true ∨ tl ≠ [] ∧ f33 m v.fOut (tl ++ [v.fLabel]) = some (!c)) {Q : Post}
  (hQ1 : c = true → ∀ G', FInv b L W q A st qf F G' → G'[g]? = some (cV v) → G.length ≤ G'.length → Ht False Try.prog (cL (cR (cL M8))) (Sm2 M j g tl G') (seqH False Try.prog (cR M8) Q))
  (hQ2 : c = false → ∀ G', FInv b L W q A st qf F G' → G'[g]? = some (cV v) → G.length ≤ G'.length → Ht False Try.prog (cR M8) (Sm2 M j g tl G') Q) : Ht False Try.prog M8 (Sm2 M j g tl G) Q := by
 have hxn := hxM n
 have key : ∀ (G' : List AObj) (σ : St) (hσ : Abs.forget (11 :: 12 :: 58 :: KM) σ = Sm 116 [(3, .ptr 0 0), (4, .ptr 1 0), (6, .ptr 2 0), (7, .ptr 3 0), (8, .ptr 5 0), (9, clo), (11, .ptr g 0), (12, dP eI tl), (24, dP e79 M), (25, dI M.length), (26, dI j), (58, .v (.bool c))] G'), FInv b L W q A st qf F G' → G'[g]? = some (cV v) → G.length ≤ G'.length → seqH False Try.prog (cR (cL M8)) (seqH False Try.prog (cR M8) Q) .normal σ := by
  intro G' σ hσ h1 h2 h3
  refine seqH.n ?_
  refine Ht.forget (11 :: 12 :: 58 :: KM) (Ht.st hσ ?_)
  refine Ht.cond c (by kernel_rfl) (by kernel_rfl) (fun hct => ?_) (fun hcf => ?_)
  ·exact Ht.forget (11 :: 12 :: KM) (Ht.st (by kernel_rfl) (hQ1 hct G' h1 h2 h3))
  ·refine Ht.skip (by kernel_rfl) ?_
   refine seqH.n ?_
   exact Ht.forget (11 :: 12 :: KM) (Ht.st (by kernel_rfl) (hQ2 hcf G' h1 h2 h3))
 have sw : ∀ p q, (p, q) ∈ [((5 : Nat), (7 : Nat)), (7, 9)] → ∀ x y, (opsOf (cL (cL M8)))[p]? = some x → (opsOf (cL (cL M8)))[q]? = some y → SwapOk (XM n).E (XM n).Γ (opsOf (cL (cL M8))) x y := by
  intro p q hpq x y hx hy
  rcases List.mem_cons.1 hpq with e | e
  ·cases e
   obtain ⟨h1, h2, h3⟩ := chk_lc (f := 34) (by kernel_rfl) hx hy
   exact swap_lc h1 h2 h3 rfl (lays34 (by omega))
  ·rcases List.mem_cons.1 e with e | e
   ·cases e
    obtain ⟨h1, h2, h3⟩ := chk_cl (f := 34) (by kernel_rfl) hx hy
    exact swap_cl h1 h2 h3 rfl (lays34 (by omega))
   ·cases e
 refine Ht.seq (by kernel_rfl) ?_
 refine Ht.seq (by kernel_rfl) ?_
 rcases hc with ⟨rfl, rfl⟩ | ⟨hne, hf⟩
 ·refine Ht.regionXs hxn [(5, 7), (7, 9)] (by kernel_rfl) sw ?_
  refine Ops.seg' 15 15 (by kernel_rfl) ?_
  refine Ops.done (by kernel_rfl) ?_
  exact key G _ (by kernel_rfl) hI hz (Nat.le_refl _)
 ·have hl0 : ((tl.length : Int) == 0) = false := by
   cases tl with
   | nil => exact absurd rfl hne
   | cons y r => simp; omega
  have hcl : cln 8 tl.length = some () := by unfold cln; rw [if_pos ⟨by omega, by unfold maxLen; omega⟩]
  refine Ht.regionXs hxn [(5, 7), (7, 9)] (by kernel_rfl) sw ?_
  refine Ops.seg' 1 1 (by kernel_rfl) ?_
  refine Ops.one' 2 (fun h0 e0 => len_r (T := TM) h0 22 3 .plain eI tl (by kernel_rfl)) (by kernel_rfl) (by kernel_rfl) ?_
  refine Ops.one' 3 (fun h0 e0 => bsub (x := ((tl.length : Int) == 0)) (b := false) hl0 h0) (by kernel_rfl) (by kernel_rfl) ?_
  refine Ops.seg' 2 5 (by kernel_rfl) ?_
  refine Ops.one' 6 (fun h0 e0 => ldc (i := ti22) (h := h0) (r := g) (off := 3) (cs := [dI v.fFrom, dI v.fLabel, dI v.fTo, dP eI v.fOut]) (d := dP eI v.fOut) (hq_of (g := G) (e0.trans (by kernel_rfl)) hz) rfl) (by kernel_rfl) (by kernel_rfl) ?_
  refine Ops.seg' 1 7 (by kernel_rfl) ?_
  refine Ops.one' 8 (fun h0 e0 => callD_own (P := Try.prog) (E := E) (E' := (XM n).E) (n := n) (f := 34) (by kernel_rfl) (by kernel_rfl) (by kernel_rfl) (row_clone h0 1 8 .plain eI tl () hcl (fun _ => rfl)) (by omega)) (by kernel_rfl) (by kernel_rfl) ?_
  refine Ops.seg' 1 9 (by kernel_rfl) ?_
  refine Ops.one' 10 (fun h0 e0 => ldc (i := ti3) (h := h0) (r := g) (off := 1) (cs := [dI v.fFrom, dI v.fLabel, dI v.fTo, dP eI v.fOut]) (d := dI v.fLabel) (hq_of (g := G ++ [AG.o (AG.of .full (tl.map eI)) 1 (tl.map eI)]) (e0.trans (by kernel_rfl)) (app_keep hz)) rfl) (by kernel_rfl) (by kernel_rfl) ?_
  refine Ops.seg' 1 11 (by kernel_rfl) ?_
  refine Ops.one' 12 (fun h0 e0 => app_g (T := TM) h0 22 3 G.length 1 ti3 (AG.of .full (tl.map eI)) .nonfull eI tl [v.fLabel] (tl ++ [v.fLabel]) (app_some _ _ _ (by show (tl.length + 1) * 8 ≤ _; omega) (by show tl.length + 1 ≤ _; omega)) (by kernel_rfl) (by kernel_rfl) (by kernel_rfl) (by kernel_rfl) (fun _ => rfl) (hq_of (g := G ++ [AG.o (AG.of .full (tl.map eI)) 1 (tl.map eI)]) (e0.trans (by kernel_rfl)) (mid_get _ _ _))) (by kernel_rfl) (by kernel_rfl) ?_
  refine Ops.one' 13 (fun h0 e0 => call_ok (E' := (XM n).E) (h := h0) (by kernel_rfl) (Args.v (eL eI v.fOut) (eL eI v.fOut) (by kernel_rfl) (Args.ag (AG.app (AG.of .full (tl.map eI)) [eI v.fLabel]) (G.length + 1) ((tl ++ [v.fLabel]).map eI) Args.nil)) (ok33 m v.fOut (tl ++ [v.fLabel]) (!c) hf n (by omega))) (by kernel_rfl) (by kernel_rfl) ?_
  refine Ops.seg' 2 15 (by kernel_rfl) ?_
  refine Ops.done (by kernel_rfl) ?_
  have e1 : (G ++ [AG.o (AG.of .full (tl.map eI)) 1 (tl.map eI)]).set G.length .dead = G ++ [.dead] := mid_set _ _ _ _
  have hlen : G.length ≤ (G ++ [AObj.dead] ++ [AG.o (AG.app (AG.of .full (tl.map eI)) [eI v.fLabel]) 1 ((tl ++ [v.fLabel]).map eI)]).length := by simp only [List.length_append, List.length_singleton]; omega
  have e2 := (hI.app [.dead]).app [AG.o (AG.app (AG.of .full (tl.map eI)) [eI v.fLabel]) 1 ((tl ++ [v.fLabel]).map eI)]
  cases c
  ·refine key (G ++ [AObj.dead] ++ [AG.o (AG.app (AG.of .full (tl.map eI)) [eI v.fLabel]) 1 ((tl ++ [v.fLabel]).map eI)]) _ ?_ e2 (app_keep (app_keep hz)) hlen
   rw [← e1]
   kernel_rfl
  ·refine key (G ++ [AObj.dead] ++ [AG.o (AG.app (AG.of .full (tl.map eI)) [eI v.fLabel]) 1 ((tl ++ [v.fLabel]).map eI)]) _ ?_ e2 (app_keep (app_keep hz)) hlen
   rw [← e1]
   kernel_rfl
end Go.Abs.Ye
namespace Go.Abs.Yf
open Go.Sort Go.Proofs Go.Abs.Ya Go.Abs.Yb Go.Abs.Yc Go.Abs.Yd Go.Abs.Ye
set_option linter.unusedVariables false
set_option maxRecDepth 100000
set_option maxHeartbeats 4000000
abbrev Mem : Type := List Int × List S53 × Int
def flM (i : Nat) (tl : List Int) (s : Mem) : Option (Int × Mem) := match s.1[i]? with
 | none => none
 | some x => if x = 0 then some (s.2.2, (s.1.set i s.2.2, s.2.1 ++ chA s.2.2 tl (s.2.2 + 1) i 0, chS tl (s.2.2 + 1))) else some (x, s)
def waitM (m : Nat) (b : S45) (L : List S75) (i : Nat) : Option (Int × List Int) := match L[i]? with
 | none => none
 | some p => match f32 m b p with
  | none => none
  | some wt => (f31 m b p wt).map (wt, ·)
def mvM (m : Nat) (b : S45) (L : List S75) (v : S79) (s : Mem) : Option Mem :=
 if 0 ≤ v.fFrom then match waitM m b L v.fFrom.toNat with
  | none => none
  | some (wt, tl) => if s.2.1.length + tl.length + v.fOut.length + 2 < 1000000 ∧ 0 ≤ s.2.2 ∧ s.2.2 + tl.length + v.fOut.length + 2 < 1000000000 then
    match (if tl = [] then some false else f33 m v.fOut (tl ++ [v.fLabel])) with
    | none => none
    | some false => some (s.1, s.2.1 ++ chA v.fTo v.fOut s.2.2 v.fFrom v.fLabel, chS v.fOut s.2.2)
    | some true => match flM v.fFrom.toNat tl s with
     | none => none
     | some (x, s') => some (s'.1, s'.2.1 ++ [⟨x, v.fTo, v.fLabel, v.fLabel, 0⟩], s'.2.2)
   else none
 else none
theorem once15 (n m : Nat) {b : S45} {L : List S75} {W : List Int} {q : Nat} {A : List S53} {st : Int} {qf : Nat} {F : List S58} {G : List AObj} (hI : FInv b L W q A st qf F G) (hG : 6 ≤ G.length) {M : List S79} {j g : Nat} {v : S79} (hz : G[g]? = some (cV v)) {tl : List Int}
  (hb : A.length + v.fOut.length < 1000000 ∧ 0 ≤ st ∧ st + v.fOut.length < 1000000000) {Q : Post}
  (hQ : ∀ q' G' σ, FInv b L W q' (A ++ chA v.fTo v.fOut st v.fFrom v.fLabel) (chS v.fOut st) qf F G' → 6 ≤ G'.length → Abs.forget KM σ = Sm1 M j G' → Q (.exit 1) σ) :
  Ht False Try.prog (cL (cR (cL M8))) (Sm2 M j g tl G) Q := by
 have hxn := hxM n
 obtain ⟨q', h1, h2⟩ := hI.ch hG v.fTo v.fOut v.fFrom v.fLabel
 refine Ht.seq (by kernel_rfl) ?_
 refine Ht.regionCall' hxn 8 (t := 67) (args := [.tmp 7, .tmp 60, .tmp 62, .tmp 64, .tmp 66]) (Qc := fun d h' => d = U ∧ h' = chH 3 (rF qf F) v.fTo v.fOut q A st v.fFrom v.fLabel G) (by kernel_rfl) is30 ?_
 refine OpsU.seg' 1 1 (by kernel_rfl) ?_
 refine OpsU.one' 2 (fun h0 e0 => ldc (i := ti3) (h := h0) (r := g) (off := 0) (cs := [dI v.fFrom, dI v.fLabel, dI v.fTo, dP eI v.fOut]) (d := dI v.fFrom) (hq_of (g := G) (e0.trans (by kernel_rfl)) hz) rfl) (by kernel_rfl) (by kernel_rfl) ?_
 refine OpsU.seg' 1 3 (by kernel_rfl) ?_
 refine OpsU.one' 4 (fun h0 e0 => ldc (i := ti3) (h := h0) (r := g) (off := 1) (cs := [dI v.fFrom, dI v.fLabel, dI v.fTo, dP eI v.fOut]) (d := dI v.fLabel) (hq_of (g := G) (e0.trans (by kernel_rfl)) hz) rfl) (by kernel_rfl) (by kernel_rfl) ?_
 refine OpsU.seg' 1 5 (by kernel_rfl) ?_
 refine OpsU.one' 6 (fun h0 e0 => ldc (i := ti22) (h := h0) (r := g) (off := 3) (cs := [dI v.fFrom, dI v.fLabel, dI v.fTo, dP eI v.fOut]) (d := dP eI v.fOut) (hq_of (g := G) (e0.trans (by kernel_rfl)) hz) rfl) (by kernel_rfl) (by kernel_rfl) ?_
 refine OpsU.seg' 1 7 (by kernel_rfl) ?_
 refine OpsU.one' 8 (fun h0 e0 => ldc (i := ti3) (h := h0) (r := g) (off := 2) (cs := [dI v.fFrom, dI v.fLabel, dI v.fTo, dP eI v.fOut]) (d := dI v.fTo) (hq_of (g := G) (e0.trans (by kernel_rfl)) hz) rfl) (by kernel_rfl) (by kernel_rfl) ?_
 refine OpsU.done ⟨callT_eq (by kernel_rfl) (by kernel_rfl) (call30 n (fr := v.fFrom) (lb := v.fLabel) (out := v.fOut) (to := v.fTo) hI.m hb.1 hb.2), fun d h' hd => ?_⟩
 obtain ⟨rfl, rfl⟩ := hd
 refine Ops.done (by kernel_rfl) ?_
 refine seqH.n ?_
 refine Ht.exit (id := 1) (by kernel_rfl) ?_
 exact hQ q' _ _ h1 (by omega) (by kernel_rfl)
abbrev Sm3 (M : List S79) (j : Int) (p : Nat) (x : Int) (G : List AObj) : St := Sm 116 [(3, .ptr 0 0), (4, .ptr 1 0), (6, .ptr 2 0), (7, .ptr 3 0), (8, .ptr 5 0), (9, clo), (11, .ptr p 0), (13, dI x), (24, dP e79 M), (25, dI M.length), (26, dI j)] G
theorem arc15 (n : Nat) {b : S45} {L : List S75} {W : List Int} {q : Nat} {A : List S53} {st : Int} {qf : Nat} {F : List S58} {G : List AObj} (hI : FInv b L W q A st qf F G) (hG : 6 ≤ G.length) {M : List S79} {j g : Nat} {v : S79} (hz : G[g]? = some (cV v)) {x : Int} (hb : A.length < 1000000) {Q : Post}
  (hQ : ∀ q' G' σ, FInv b L W q' (A ++ [⟨x, v.fTo, v.fLabel, v.fLabel, 0⟩]) st qf F G' → 6 ≤ G'.length → Abs.forget KM σ = Sm1 M j G' → Q .normal σ) :
  Ht False Try.prog (cR (cR M8)) (Sm3 M j g x G) Q := by
 have hxn := hxR n
 refine Ht.region hxn (by kernel_rfl) ?_
 refine Ops.seg' 1 1 (by kernel_rfl) ?_
 refine Ops.one' 2 (fun h0 e0 => ldc (i := ti26) (h := h0) (r := 3) (off := 1) (cs := [dI st, rA q A, rF qf F]) (d := rA q A) (hq_of (g := G) (e0.trans (by kernel_rfl)) hI.m.hr) (by cases A <;> rfl)) (by kernel_rfl) (by kernel_rfl) ?_
 refine Ops.seg' 2 4 (by kernel_rfl) ?_
 refine Ops.one' 5 (fun h0 e0 => ldc (i := ti3) (h := h0) (r := g) (off := 1) (cs := [dI v.fFrom, dI v.fLabel, dI v.fTo, dP eI v.fOut]) (d := dI v.fLabel) (hq_of (g := G) (e0.trans (by kernel_rfl)) hz) rfl) (by kernel_rfl) (by kernel_rfl) ?_
 refine Ops.seg' 1 6 (by kernel_rfl) ?_
 refine Ops.one' 7 (fun h0 e0 => ldc (i := ti3) (h := h0) (r := g) (off := 1) (cs := [dI v.fFrom, dI v.fLabel, dI v.fTo, dP eI v.fOut]) (d := dI v.fLabel) (hq_of (g := G) (e0.trans (by kernel_rfl)) hz) rfl) (by kernel_rfl) (by kernel_rfl) ?_
 refine Ops.seg' 1 8 (by kernel_rfl) ?_
 refine Ops.one' 9 (fun h0 e0 => ldc (i := ti3) (h := h0) (r := g) (off := 2) (cs := [dI v.fFrom, dI v.fLabel, dI v.fTo, dP eI v.fOut]) (d := dI v.fTo) (hq_of (g := G) (e0.trans (by kernel_rfl)) hz) rfl) (by kernel_rfl) (by kernel_rfl) ?_
 refine Ops.seg' 2 11 (by kernel_rfl) ?_
 refine Ops.one' 12 (fun h0 e0 => appA h0 (a := ⟨x, v.fTo, v.fLabel, v.fLabel, 0⟩) hb (fun e => (hq_of (g := G) (e0.trans (by kernel_rfl)) (hI.m.hq e)))) (by kernel_rfl) (by kernel_rfl) ?_
 refine Ops.seg' 1 13 (by kernel_rfl) ?_
 refine Ops.one' 14 (fun h0 e0 => st_l (i := ti26) (h := h0) (r := 3) (off := 1) (cs := [dI st, rA q A, rF qf F]) (cs' := [dI st, rA G.length (A ++ [⟨x, v.fTo, v.fLabel, v.fLabel, 0⟩]), rF qf F]) (x := rA G.length (A ++ [⟨x, v.fTo, v.fLabel, v.fLabel, 0⟩])) (hq_of (g := kil q A G ++ [oA (A ++ [⟨x, v.fTo, v.fLabel, v.fLabel, 0⟩])]) (e0.trans (by kernel_rfl)) (app_keep (by rw [kil_get hI.m.ne]; exact hI.m.hr))) rfl (rowF_one _ _ _) rfl) (by kernel_rfl) (by kernel_rfl) ?_
 refine Ops.done (by kernel_rfl) ?_
 exact hQ _ _ _ (hI.add hG ⟨x, v.fTo, v.fLabel, v.fLabel, 0⟩) (by rw [add_len]; omega) (by kernel_rfl)
theorem call29 (n m : Nat) (hn : m + 2 ≤ n) {b : S45} {L : List S75} {q : Nat} {qf : Nat} {F : List S58} {G : List AObj} {s s' : Mem} (hI : FInv b L s.1 q s.2.1 s.2.2 qf F G) (hG : 6 ≤ G.length) {i : Nat} {p : S75} (hp : L[i]? = some p) {wt : Int} (hw : f32 m b p = some wt) {tl : List Int} (ht : f31 m b p wt = some tl)
  (hst : 0 ≤ s.2.2 ∧ s.2.2 + 1 + tl.length < 1000000000) (hA : s.2.1.length + tl.length < 1000000) {x : Int} (hf : flM i tl s = some (x, s')) :
  ∃ G', CallT False Try.prog 29 [dI i, .ptr 5 0, .ptr 3 0, .ptr 0 0, .ptr 1 0] G (fun d h' => d = dI x ∧ h' = G') ∧ (∃ q', FInv b L s'.1 q' s'.2.1 s'.2.2 qf F G') ∧ G.length ≤ G'.length ∧ ∀ j, j < G.length → 6 ≤ j → (s.2.1 ≠ [] → j ≠ q) → G'[j]? = G[j]? := by
 obtain ⟨W, A, st⟩ := s
 have hI : FInv b L W q A st qf F G := hI
 unfold flM at hf
 split at hf
 ·cases hf
 rename_i y hy
 split at hf
 ·rename_i h0
  subst h0
  cases hf
  have hi := lt_of_getElem? hy
  have hK := hI.wr (i := i) hi
  have hlen : (wrH i W q A st (rF qf F) G).length = G.length := by simp [wrH]
  obtain ⟨q', h1, h2⟩ := hK.ch (by omega) st tl i 0
  obtain ⟨_, _, _, h3, h4⟩ := ch_spec (to := st) (out := tl) (fr := (i : Int)) (lb := 0) hK.m
  rw [hlen] at h2 h3 h4
  refine ⟨flH b i tl W q A st (rF qf F) G, call29b n m hn hI hG hy hp hw ht hst hA, ⟨q', h1⟩, h2, fun j g1 g2 g3 => ?_⟩
  show (chH 3 (rF qf F) st tl q A (st + 1) i 0 (wrH i W q A st (rF qf F) G))[j]? = _
  rw [h4 j g1 (by omega) g3]
  unfold wrH
  rw [List.getElem?_set_ne (by omega), List.getElem?_set_ne (by omega)]
 ·rename_i h0
  cases hf
  exact ⟨G, call29a n hI hy h0, ⟨q, hI⟩, Nat.le_refl _, fun _ _ _ _ => rfl⟩
theorem flush15 (n m : Nat) (hn : m + 2 ≤ n) {b : S45} {L : List S75} {q : Nat} {qf : Nat} {F : List S58} {G : List AObj} {s s' : Mem} (hI : FInv b L s.1 q s.2.1 s.2.2 qf F G) (hG : 6 ≤ G.length) {M : List S79} {j g : Nat} {v : S79} (hz : G[g]? = some (cV v)) (hg : 6 ≤ g) {i : Nat} (hi : v.fFrom = (i : Int)) {p : S75} (hp : L[i]? = some p) {wt : Int} (hw : f32 m b p = some wt) {tl : List Int} (ht : f31 m b p wt = some tl)
  (hst : 0 ≤ s.2.2 ∧ s.2.2 + 1 + tl.length < 1000000000) (hA : s.2.1.length + tl.length < 1000000) {x : Int} (hf : flM i tl s = some (x, s')) (hA' : s'.2.1.length < 1000000) {Q : Post}
  (hQ : ∀ q' G' σ, FInv b L s'.1 q' (s'.2.1 ++ [⟨x, v.fTo, v.fLabel, v.fLabel, 0⟩]) s'.2.2 qf F G' → 6 ≤ G'.length → Abs.forget KM σ = Sm1 M j G' → Q .normal σ) :
  Ht False Try.prog (cR M8) (Sm2 M j g tl G) Q := by
 obtain ⟨G', hc, ⟨q', hI'⟩, hl, hfr⟩ := call29 n m hn hI hG hp hw ht hst hA hf
 have hz' : G'[g]? = some (cV v) := by
  rw [hfr g (lt_of_getElem? hz) hg fun e1 e2 => ?_]
  ·exact hz
  ·subst e2
   have := hI.m.hq e1
   rw [hz] at this
   cases hA2 : s.2.1 with
   | nil => exact e1 hA2
   | cons a r => rw [hA2] at this; cases this
 rw [← hi] at hc
 have hxi := hxI false n is29 hc
 have cj := @callI false n 29 [dI v.fFrom, .ptr 5 0, .ptr 3 0, .ptr 0 0, .ptr 1 0] G (dI x) G'
 refine Ht.seq (by kernel_rfl) ?_
 refine Ht.region hxi (by kernel_rfl) ?_
 refine Ops.seg' 2 2 (by kernel_rfl) ?_
 refine Ops.one' 3 (fun h0 e0 => ldc (i := ti3) (h := h0) (r := g) (off := 0) (cs := [dI v.fFrom, dI v.fLabel, dI v.fTo, dP eI v.fOut]) (d := dI v.fFrom) (hq_of (g := G) (e0.trans (by kernel_rfl)) hz) rfl) (by kernel_rfl) (by kernel_rfl) ?_
 refine Ops.one' 4 (fun h0 e0 => cj (ds := [dI v.fFrom, .ptr 5 0, .ptr 3 0, .ptr 0 0, .ptr 1 0]) (h := h0) rfl (e0.trans (by kernel_rfl)) (by kernel_rfl) (by kernel_rfl)) (by kernel_rfl) (by kernel_rfl) ?_
 refine Ops.seg' 1 5 (by kernel_rfl) ?_
 refine Ops.done (by kernel_rfl) ?_
 refine seqH.n ?_
 refine Ht.forget (11 :: 13 :: KM) (Ht.st (σ' := Sm3 M j g x G') (by kernel_rfl) ?_)
 exact arc15 n hI' (by omega) hz' hA' hQ
theorem chA_len {to : Int} : ∀ (out : List Int) (st fr lb : Int), (chA to out st fr lb).length ≤ out.length + 1
 | [], st, fr, lb => Nat.le_refl _
 | [o], st, fr, lb => by simp [chA]
 | o :: o2 :: out, st, fr, lb => by
  have := chA_len (to := to) (o2 :: out) (st + 1) st 0
  simp only [chA, List.length_cons] at this ⊢
  omega
theorem flM_len {i : Nat} {tl : List Int} {s s' : Mem} {x : Int} (h : flM i tl s = some (x, s')) : s'.2.1.length ≤ s.2.1.length + tl.length + 1 ∧ s'.1.length = s.1.length := by
 unfold flM at h
 split at h
 ·cases h
 split at h
 ·cases h
  have := chA_len (to := s.2.2) tl (s.2.2 + 1) i 0
  simp only [List.length_append, List.length_set]
  exact ⟨by omega, trivial⟩
 ·cases h
  exact ⟨by omega, rfl⟩
theorem step15 (n m : Nat) (hn : m + 3 ≤ n) {b : S45} {L : List S75} {q : Nat} {qf : Nat} {F : List S58} {G : List AObj} {s s' : Mem} (hI : FInv b L s.1 q s.2.1 s.2.2 qf F G) (hG : 6 ≤ G.length) {M : List S79} {j : Nat} {v : S79} (hv : M[j]? = some v) (hm : mvM m b L v s = some s') {Q : Post}
  (hQ1 : ∀ q' G' σ, FInv b L s'.1 q' s'.2.1 s'.2.2 qf F G' → 6 ≤ G'.length → Abs.forget KM σ = Sm1 M j G' → Q (.exit 1) σ)
  (hQ2 : ∀ q' G' σ, FInv b L s'.1 q' s'.2.1 s'.2.2 qf F G' → 6 ≤ G'.length → Abs.forget KM σ = Sm1 M j G' → Q .normal σ) :
  Ht False Try.prog B1 (Sm1 M j G) Q := by
 unfold mvM at hm
 split at hm
 case isFalse => cases hm
 rename_i hf0
 obtain ⟨i, hi⟩ : ∃ i : Nat, v.fFrom = (i : Int) := ⟨v.fFrom.toNat, by omega⟩
 have hti : v.fFrom.toNat = i := by omega
 rw [hti] at hm
 split at hm
 ·cases hm
 rename_i wt tl hwt
 unfold waitM at hwt
 split at hwt
 ·cases hwt
 rename_i p hp
 split at hwt
 ·cases hwt
 rename_i wt' hw
 obtain ⟨tl', ht, he⟩ := Option.map_eq_some_iff.1 hwt
 cases he
 split at hm
 case isFalse => cases hm
 rename_i hb
 have hres : ∃ c, (tl = [] ∧ c = true ∨ tl ≠ [] ∧ f33 m v.fOut (tl ++ [v.fLabel]) = some (!c)) ∧ (if tl = [] then some false else f33 m v.fOut (tl ++ [v.fLabel])) = some (!c) := by
  by_cases e : tl = []
  ·exact ⟨true, .inl ⟨e, rfl⟩, by rw [if_pos e]; rfl⟩
  ·rw [if_neg e] at hm ⊢
   cases hz : f33 m v.fOut (tl ++ [v.fLabel]) with
   | none => rw [hz] at hm; cases hm
   | some z => exact ⟨!z, .inr ⟨e, by simp⟩, by simp⟩
 obtain ⟨c, hc, hce⟩ := hres
 rw [hce] at hm
 refine wait15 n m (by omega) hI hv hi hp hw ht ?_
 refine test15 n m hn (hI.app [cV v]) (g := G.length) (mid_get _ _ _) (by omega) hc (fun hct G' h1 h2 h3 => ?_) (fun hcf G' h1 h2 h3 => ?_)
 ·subst hct
  have hm : some (s.1, s.2.1 ++ chA v.fTo v.fOut s.2.2 v.fFrom v.fLabel, chS v.fOut s.2.2) = some s' := hm
  cases hm
  have h3 : G.length + 1 ≤ G'.length := by simpa using h3
  refine once15 n m h1 (by omega) h2 ⟨by omega, by omega, by omega⟩ fun q' G'' σ g1 g2 g3 => ?_
  exact hQ1 q' G'' σ g1 g2 g3
 ·subst hcf
  have hm : (match flM i tl s with
     | none => none
     | some (x, s') => some (s'.1, s'.2.1 ++ [⟨x, v.fTo, v.fLabel, v.fLabel, 0⟩], s'.2.2)) = some s' := hm
  split at hm
  ·cases hm
  rename_i x s1 hfl
  cases hm
  have h3 : G.length + 1 ≤ G'.length := by simpa using h3
  refine flush15 n m (by omega) h1 (by omega) h2 hG hi hp hw ht (by omega) (by omega) hfl ?_ fun q' G'' σ g1 g2 g3 => hQ2 q' G'' σ g1 g2 g3
  have := (flM_len hfl).1
  omega
def mvsM (m : Nat) (b : S45) (L : List S75) : List S79 → Mem → Option Mem
 | [], s => some s
 | v :: r, s => match mvM m b L v s with
  | none => none
  | some s' => mvsM m b L r s'
def ML (m : Nat) (b : S45) (L : List S75) (M : List S79) (goal : Mem) : Nat → St → Prop := fun K σ => ∃ (j : Nat) (s : Mem) (q : Nat) (G : List AObj), j + K = M.length ∧ mvsM m b L (M.drop j) s = some goal ∧ FInv b L s.1 q s.2.1 s.2.2 0 [] G ∧ 6 ≤ G.length ∧ Abs.forget KM σ = Sm1 M j G
theorem moves15 (n m : Nat) (hn : m + 3 ≤ n) {b : S45} {L : List S75} {q : Nat} {G : List AObj} {s goal : Mem} (hI : FInv b L s.1 q s.2.1 s.2.2 0 [] G) (hG : 6 ≤ G.length) {M : List S79} (hM : M.length < 100000000) (hg : mvsM m b L M s = some goal) {Q : Post}
  (hQ : ∀ q' G' σ, FInv b L goal.1 q' goal.2.1 goal.2.2 0 [] G' → 6 ≤ G'.length → Abs.forget [3, 4, 6, 7, 8, 9] σ = Sm 116 [(3, .ptr 0 0), (4, .ptr 1 0), (6, .ptr 2 0), (7, .ptr 3 0), (8, .ptr 5 0), (9, clo)] G' → Q (.exit 0) σ) :
  Ht False Try.prog LP1 (Sm1 M 0 G) Q := by
 have hxn := hxM n
 refine Ht.loop (ML m b L M goal) M.length (by kernel_rfl) ⟨0, s, q, G, by omega, hg, hI, hG, by kernel_rfl⟩ ?_
 clear hI hg hG
 rintro K σ ⟨j, s, q, G, hj, hg, hI, hG, hσ⟩
 refine Ht.forget KM (Ht.st hσ ?_)
 clear hσ
 refine Ht.seq (by kernel_rfl) ?_
 refine Ht.region hxn (by kernel_rfl) ?_
 refine Ops.seg' 1 1 (by kernel_rfl) ?_
 refine Ops.done (by kernel_rfl) ?_
 refine seqH.n ?_
 refine Ht.seq (by kernel_rfl) ?_
 refine Ht.cond (decide ((j : Int) < (M.length : Int))) (by kernel_rfl) (by kernel_rfl) (fun hc => ?_) (fun hc => ?_)
 case refine_2 =>
  have hc := of_decide_eq_false hc
  have hj : j = M.length := by omega
  rw [hj, List.drop_length] at hg
  have hg : some s = some goal := hg
  cases hg
  refine Ht.exit (id := 0) (by kernel_rfl) ?_
  exact hQ _ _ _ hI hG (by kernel_rfl)
 have hc := of_decide_eq_true hc
 have hlt : j < M.length := by omega
 rw [List.drop_eq_getElem_cons hlt] at hg
 have hv : M[j]? = some M[j] := List.getElem?_eq_getElem hlt
 generalize M[j] = v at hg hv
 have hg : (match mvM m b L v s with
  | none => none
  | some s' => mvsM m b L (M.drop (j + 1)) s') = some goal := hg
 obtain ⟨s', hs'⟩ : ∃ s', mvM m b L v s = some s' := by
  cases h : mvM m b L v s with
  | none => rw [h] at hg; cases hg
  | some y => exact ⟨y, rfl⟩
 rw [hs'] at hg
 have hg : mvsM m b L (M.drop (j + 1)) s' = some goal := hg
 have next : ∀ q' G' σ, FInv b L s'.1 q' s'.2.1 s'.2.2 0 [] G' → 6 ≤ G'.length → Abs.forget KM σ = Sm1 M j G' → Ht False Try.prog (cR (cR (cR LB1))) σ (lpH (ML m b L M goal) K Q) := by
  intro q' G' σ h1 h2 h3
  refine Ht.forget KM (Ht.st h3 ?_)
  refine Ht.region hxn (by kernel_rfl) ?_
  refine Ops.seg' 2 2 (by kernel_rfl) ?_
  refine Ops.done (by kernel_rfl) ?_
  refine ⟨K - 1, by omega, j + 1, s', q', G', by omega, hg, h1, h2, ?_⟩
  rw [← w64_nat (by omega)]
  kernel_rfl
 refine Ht.skip (by kernel_rfl) ?_
 refine seqH.n ?_
 refine Ht.seq (by kernel_rfl) ?_
 refine Ht.block 1 (by kernel_rfl) ?_
 refine Ht.forget KM (Ht.st (σ' := Sm1 M j G) (by kernel_rfl) ?_)
 refine step15 n m hn hI hG hv hs' (fun q' G' σ h1 h2 h3 => ?_) (fun q' G' σ h1 h2 h3 => ?_)
 ·exact blkH.x (seqH.n (next q' G' σ h1 h2 h3))
 ·exact blkH.n (seqH.n (next q' G' σ h1 h2 h3))
end Go.Abs.Yf
namespace Go.Abs.Yg
open Go.Sort Go.Proofs Go.Abs.Ya Go.Abs.Yb Go.Abs.Yc Go.Abs.Yd Go.Abs.Ye Go.Abs.Yf
set_option linter.unusedVariables false
set_option maxRecDepth 100000
set_option maxHeartbeats 4000000
abbrev oF (F : List S58) : AObj := rowO 2 (F.map e58)
def kilF (q : Nat) (F : List S58) (h : List AObj) : List AObj := match F with
 | [] => h
 | _ :: _ => h.set q .dead
theorem kilF_len (q : Nat) (F : List S58) (h : List AObj) : (kilF q F h).length = h.length := by cases F <;> simp [kilF]
theorem kilF_get {q j : Nat} {F : List S58} {h : List AObj} (hne : F ≠ [] → q ≠ j) : (kilF q F h)[j]? = h[j]? := by
 cases F with
 | nil => rfl
 | cons a r => exact List.getElem?_set_ne (hne (List.cons_ne_nil _ _))
theorem appFn (h : List AObj) {q : Nat} {F : List S58} {a : S58} (hF : F.length < 1000000) (hq : F ≠ [] → h[q]? = some (oF F)) : appendD TM true 27 h (rF q F) (.v (.sl .nonfull [e58 a])) = some (rF h.length (F ++ [a]), kilF q F h ++ [oF (F ++ [a])]) := by
 cases F with
 | nil => exact row_n (T := TM) (g := .nil) h 27 59 ti59 .nonfull e58 [a] [a] (app_some _ [] [a] (by show (0 + 1) * 16 ≤ _; omega) (by show 0 + 1 ≤ _; omega)) (by kernel_rfl) (by kernel_rfl) (by kernel_rfl) (by kernel_rfl) (fun _ => rfl)
 | cons a0 F => exact row_app (T := TM) (g := .nil) h 27 59 q ti59 .nonfull e58 (a0 :: F) [a] ((a0 :: F) ++ [a]) (app_some _ _ _ (by show ((a0 :: F).length + 1) * 16 ≤ _; omega) (by show (a0 :: F).length + 1 ≤ _; omega)) (by kernel_rfl) (by kernel_rfl) (by kernel_rfl) (by kernel_rfl) (fun _ => rfl) (hq (List.cons_ne_nil _ _))
def addF (qf : Nat) (F : List S58) (a : S58) (q : Nat) (A : List S53) (st : Int) (G : List AObj) : List AObj := (kilF qf F G ++ [oF (F ++ [a])]).set 3 (mC st q A (rF G.length (F ++ [a])))
theorem _root_.Go.Abs.Yd.FInv.addF {b L W q A st qf F G} (h : FInv b L W q A st qf F G) (hG : 6 ≤ G.length) (a : S58) : FInv b L W q A st G.length (F ++ [a]) (addF qf F a q A st G) := by
 have k : ∀ (j : Nat) (o : AObj), j ≠ 3 → (F ≠ [] → qf ≠ j) → G[j]? = some o → (Yg.addF qf F a q A st G)[j]? = some o := fun j o h3 hq ho => by
  refine set_keep (Ne.symm h3) (app_keep ?_)
  rw [kilF_get hq]; exact ho
 have k6 : ∀ (j : Nat) (o : AObj), j ≠ 3 → j < 6 → G[j]? = some o → (Yg.addF qf F a q A st G)[j]? = some o := fun j o h3 hj ho => k j o h3 (fun e => by have := h.f6 e; omega) ho
 refine ⟨k6 0 _ (by omega) (by omega) h.g0, k6 1 _ (by omega) (by omega) h.g1, k6 2 _ (by omega) (by omega) h.g2, ⟨?_, fun e => k q _ (by have := h.q6 e; omega) (fun ef => h.qq e ef) (h.m.hq e), h.m.ne⟩, k6 4 _ (by omega) (by omega) h.g4, k6 5 _ (by omega) (by omega) h.g5, h.q6, fun _ => hG, fun _ => ?_⟩
 ·exact List.getElem?_set_self (by simp [kilF_len]; omega)
 ·refine set_keep (by omega) ?_
  rw [List.getElem?_append_right (by rw [kilF_len]; exact Nat.le_refl _), kilF_len, Nat.sub_self]
  rfl
theorem addF_len (qf : Nat) (F : List S58) (a : S58) (q : Nat) (A : List S53) (st : Int) (G : List AObj) : (addF qf F a q A st G).length = G.length + 1 := by simp [addF, kilF_len]
def fnM (m : Nat) (b : S45) (i : Nat) (p : S75) (s : Mem × List S58) : Option (Mem × List S58) := match f32 m b p with
 | none => none
 | some wt => if wt > 0 then match f31 m b p wt with
   | none => none
   | some tl => if s.1.2.1.length + tl.length < 1000000 ∧ 0 ≤ s.1.2.2 ∧ s.1.2.2 + 1 + tl.length < 1000000000 ∧ s.2.length < 1000000 then match flM i tl s.1 with
     | none => none
     | some (x, s') => some (s', s.2 ++ [⟨x, 0⟩])
    else none
  else if s.2.length < 1000000 then some (s.1, s.2 ++ [⟨i, 0⟩]) else none
noncomputable abbrev U15 : Code := cR T15
noncomputable abbrev LP3 : Code := cL (cR (cL U15))
noncomputable abbrev LB3 : Code := cL LP3
noncomputable abbrev B3' : Code := cL (cL (cR (cR LB3)))
noncomputable abbrev N17 : Code := cR (cR B3')
abbrev KF : List Nat := [3, 4, 6, 7, 8, 9, 86, 87, 88]
abbrev Sf (L : List S75) (j : Int) (G : List AObj) : St := Sm 116 [(3, .ptr 0 0), (4, .ptr 1 0), (6, .ptr 2 0), (7, .ptr 3 0), (8, .ptr 5 0), (9, clo), (86, dP e75 L), (87, dI L.length), (88, dI j)] G
abbrev Sg (L : List S75) (j x : Int) (G : List AObj) : St := Sm 116 [(3, .ptr 0 0), (4, .ptr 1 0), (6, .ptr 2 0), (7, .ptr 3 0), (8, .ptr 5 0), (9, clo), (16, dI x), (86, dP e75 L), (87, dI L.length), (88, dI j)] G
theorem last15 (n : Nat) {b : S45} {L : List S75} {W : List Int} {q : Nat} {A : List S53} {st : Int} {qf : Nat} {F : List S58} {G : List AObj} (hI : FInv b L W q A st qf F G) (hG : 6 ≤ G.length) {j : Nat} {x : Int} (hF : F.length < 1000000) {Q : Post}
  (hQ : ∀ qf' G' σ, FInv b L W q A st qf' (F ++ [⟨x, 0⟩]) G' → 6 ≤ G'.length → Abs.forget KF σ = Sf L j G' → Q .normal σ) :
  Ht False Try.prog (cR N17) (Sg L j x G) Q := by
 have hxn := hxR n
 refine Ht.region hxn (by kernel_rfl) ?_
 refine Ops.seg' 1 1 (by kernel_rfl) ?_
 refine Ops.one' 2 (fun h0 e0 => ldc (i := ti27) (h := h0) (r := 3) (off := 2) (cs := [dI st, rA q A, rF qf F]) (d := rF qf F) (hq_of (g := G) (e0.trans (by kernel_rfl)) hI.m.hr) (by cases F <;> rfl)) (by kernel_rfl) (by kernel_rfl) ?_
 refine Ops.seg' 3 5 (by kernel_rfl) ?_
 refine Ops.one' 6 (fun h0 e0 => appFn h0 (a := ⟨x, 0⟩) hF (fun e => (hq_of (g := G) (e0.trans (by kernel_rfl)) (hI.hf e)))) (by kernel_rfl) (by kernel_rfl) ?_
 refine Ops.seg' 1 7 (by kernel_rfl) ?_
 refine Ops.one' 8 (fun h0 e0 => st_l (i := ti27) (h := h0) (r := 3) (off := 2) (cs := [dI st, rA q A, rF qf F]) (cs' := [dI st, rA q A, rF G.length (F ++ [⟨x, 0⟩])]) (x := rF G.length (F ++ [⟨x, 0⟩])) (hq_of (g := kilF qf F G ++ [oF (F ++ [⟨x, 0⟩])]) (e0.trans (by kernel_rfl)) (app_keep (by rw [kilF_get (fun e => by have := hI.f6 e; omega)]; exact hI.m.hr))) rfl (rowF_one _ _ _) rfl) (by kernel_rfl) (by kernel_rfl) ?_
 refine Ops.done (by kernel_rfl) ?_
 exact hQ _ _ _ (hI.addF hG ⟨x, 0⟩) (by rw [addF_len]; omega) (by kernel_rfl)
theorem final15 (n m : Nat) (hn : m + 3 ≤ n) {b : S45} {L : List S75} {q : Nat} {qf : Nat} {G : List AObj} {s s' : Mem × List S58} (hI : FInv b L s.1.1 q s.1.2.1 s.1.2.2 qf s.2 G) (hG : 6 ≤ G.length) {j : Nat} {p : S75} (hp : L[j]? = some p) (hm : fnM m b j p s = some s') {Q : Post}
  (hQ : ∀ q' qf' G' σ, FInv b L s'.1.1 q' s'.1.2.1 s'.1.2.2 qf' s'.2 G' → 6 ≤ G'.length → Abs.forget KF σ = Sf L j G' → Q .normal σ) :
  Ht False Try.prog B3' (Sf L j G) Q := by
 have hxn := hxM n
 have ip : idx L (j : Int) = some p := by rw [idx_get]; exact hp
 unfold fnM at hm
 split at hm
 ·cases hm
 rename_i wt hw
 refine Ht.seq (by kernel_rfl) ?_
 refine Ht.region hxn (by kernel_rfl) ?_
 refine Ops.seg' 1 1 (by kernel_rfl) ?_
 refine Ops.one' 2 (fun h0 e0 => ix_r (T := TM) h0 48 76 2 .plain e75 L j p ip (by kernel_rfl) (by kernel_rfl) (fun _ => rfl)) (by kernel_rfl) (by kernel_rfl) ?_
 refine Ops.seg' 3 5 (by kernel_rfl) ?_
 refine Ops.one' 6 (fun h0 e0 => stc (i := ti76) (h := h0) (r := G.length) (off := 0) (cs := [dI 0, dI 0]) (cs' := [dI p.fFit, dI p.fSince]) (x := .v (e75 p)) (hq_of (g := G ++ [c00]) (e0.trans (by kernel_rfl)) (mid_get G _ _)) rfl rfl) (by kernel_rfl) (by kernel_rfl) ?_
 refine Ops.done (by kernel_rfl) ?_
 refine seqH.n ?_
 refine Ht.seq (by kernel_rfl) ?_
 refine Ht.region hxn (by kernel_rfl) ?_
 refine Ops.seg' 2 2 (by kernel_rfl) ?_
 refine Ops.done (by kernel_rfl) ?_
 refine seqH.n ?_
 refine Ht.forget (14 :: 15 :: 16 :: KF) (Ht.st (σ' := Sm 116 [(3, .ptr 0 0), (4, .ptr 1 0), (6, .ptr 2 0), (7, .ptr 3 0), (8, .ptr 5 0), (9, clo), (14, dI j), (15, .ptr G.length 0), (16, dI j), (86, dP e75 L), (87, dI L.length), (88, dI j)] (G ++ [cQ p])) (by rw [← mid_set G c00 (cQ p) []]; kernel_rfl) ?_)
 have hK := hI.app [cQ p]
 have hz : (G ++ [cQ p])[G.length]? = some (cQ p) := mid_get _ _ _
 have hG' : 6 ≤ (G ++ [cQ p]).length := by simp; omega
 generalize G ++ [cQ p] = K at hK hz hG' ⊢
 generalize G.length = g at hz ⊢
 refine Ht.seq (by kernel_rfl) ?_
 refine Ht.seq (by kernel_rfl) ?_
 refine Ht.region hxn (by kernel_rfl) ?_
 refine Ops.one' 1 (fun h0 e0 => ldc (i := ti44) (h := h0) (r := 0) (off := 0) (cs := [.vptr (bc b)]) (d := .vptr (bc b)) (hq_of (g := K) (e0.trans (by kernel_rfl)) hK.g0) rfl) (by kernel_rfl) (by kernel_rfl) ?_
 refine Ops.one' 2 (fun h0 e0 => ldc (i := ti76) (h := h0) (r := g) (off := 0) (cs := [dI p.fFit, dI p.fSince]) (d := .v (.agg [vI p.fFit, vI p.fSince])) (hq_of (g := K) (e0.trans (by kernel_rfl)) hz) rfl) (by kernel_rfl) (by kernel_rfl) ?_
 refine Ops.one' 3 (fun h0 e0 => call_ok (E' := (XM n).E) (h := h0) (by kernel_rfl) (Args.vp (bc b) (Args.v (.agg [vI p.fFit, vI p.fSince]) (e75 p) (by kernel_rfl) Args.nil)) (ok32 m b p wt hw n (by omega))) (by kernel_rfl) (by kernel_rfl) ?_
 refine Ops.seg' 1 4 (by kernel_rfl) ?_
 refine Ops.done (by kernel_rfl) ?_
 refine seqH.n ?_
 by_cases hpos : wt > 0
 ·rw [if_pos hpos] at hm
  split at hm
  ·cases hm
  rename_i tl ht
  split at hm
  case isFalse => cases hm
  rename_i hb
  split at hm
  ·cases hm
  rename_i x s1 hfl
  cases hm
  refine Ht.cond (decide (wt > 0)) (by kernel_rfl) (by kernel_rfl) (fun _ => ?_) (fun hc => absurd hpos (of_decide_eq_false hc))
  obtain ⟨G', hc, ⟨q', hI'⟩, hl, hfr⟩ := call29 n m (by omega) hK hG' hp hw ht (by omega) (by omega) hfl
  have hxi := hxI false n is29 hc
  have cj := @callI false n 29 [dI j, .ptr 5 0, .ptr 3 0, .ptr 0 0, .ptr 1 0] K (dI x) G'
  refine Ht.region hxi (by kernel_rfl) ?_
  refine Ops.seg' 2 2 (by kernel_rfl) ?_
  refine Ops.one' 3 (fun h0 e0 => cj (ds := [dI j, .ptr 5 0, .ptr 3 0, .ptr 0 0, .ptr 1 0]) (h := h0) rfl (e0.trans (by kernel_rfl)) (by kernel_rfl) (by kernel_rfl)) (by kernel_rfl) (by kernel_rfl) ?_
  refine Ops.seg' 1 4 (by kernel_rfl) ?_
  refine Ops.done (by kernel_rfl) ?_
  refine seqH.n ?_
  refine Ht.forget (16 :: KF) (Ht.st (σ' := Sg L j x G') (by kernel_rfl) ?_)
  exact last15 n hI' (by omega) hb.2.2.2 fun qf' G'' σ h1 h2 h3 => hQ q' qf' G'' σ h1 h2 h3
 ·rw [if_neg hpos] at hm
  split at hm
  case isFalse => cases hm
  rename_i hb
  cases hm
  refine Ht.cond (decide (wt > 0)) (by kernel_rfl) (by kernel_rfl) (fun hc => absurd (of_decide_eq_true hc) hpos) (fun _ => ?_)
  refine Ht.skip (by kernel_rfl) ?_
  refine seqH.n ?_
  refine Ht.forget (16 :: KF) (Ht.st (σ' := Sg L j j K) (by kernel_rfl) ?_)
  exact last15 n hK hG' hb fun qf' G'' σ h1 h2 h3 => hQ q qf' G'' σ h1 h2 h3
def fnsM (m : Nat) (b : S45) (L : List S75) : Nat → Nat → Mem × List S58 → Option (Mem × List S58)
 | 0, _, _ => none
 | K + 1, j, s => match L[j]? with
  | none => some s
  | some p => match fnM m b j p s with
   | none => none
   | some s' => fnsM m b L K (j + 1) s'
def FL (m : Nat) (b : S45) (L : List S75) (goal : Mem × List S58) : Nat → St → Prop := fun K σ => ∃ (j : Nat) (s : Mem × List S58) (q qf : Nat) (G : List AObj), j + K ≤ 1000000 ∧ fnsM m b L K j s = some goal ∧ FInv b L s.1.1 q s.1.2.1 s.1.2.2 qf s.2 G ∧ 6 ≤ G.length ∧ Abs.forget KF σ = Sf L j G
theorem finals15 (n m : Nat) (hn : m + 3 ≤ n) {b : S45} {L : List S75} {q qf : Nat} {G : List AObj} {s goal : Mem × List S58} (hI : FInv b L s.1.1 q s.1.2.1 s.1.2.2 qf s.2 G) (hG : 6 ≤ G.length) {K0 : Nat} (hK0 : K0 ≤ 1000000) (hg : fnsM m b L K0 0 s = some goal) {Q : Post}
  (hQ : ∀ q' qf' G' σ, FInv b L goal.1.1 q' goal.1.2.1 goal.1.2.2 qf' goal.2 G' → 6 ≤ G'.length → Abs.forget [6, 7] σ = Sm 116 [(6, .ptr 2 0), (7, .ptr 3 0)] G' → Q (.exit 2) σ) :
  Ht False Try.prog LP3 (Sf L 0 G) Q := by
 have hxn := hxM n
 refine Ht.loop (FL m b L goal) K0 (by kernel_rfl) ⟨0, s, q, qf, G, by omega, hg, hI, hG, by kernel_rfl⟩ ?_
 clear hI hg hG
 rintro K σ ⟨j, s, q, qf, G, hj, hg, hI, hG, hσ⟩
 obtain ⟨K, rfl⟩ : ∃ z, K = z + 1 := by
  cases K with
  | zero => cases hg
  | succ z => exact ⟨z, rfl⟩
 have hg : (match L[j]? with
  | none => some s
  | some p => match fnM m b j p s with
   | none => none
   | some s' => fnsM m b L K (j + 1) s') = some goal := hg
 refine Ht.forget KF (Ht.st hσ ?_)
 clear hσ
 refine Ht.seq (by kernel_rfl) ?_
 refine Ht.region hxn (by kernel_rfl) ?_
 refine Ops.seg' 1 1 (by kernel_rfl) ?_
 refine Ops.done (by kernel_rfl) ?_
 refine seqH.n ?_
 refine Ht.seq (by kernel_rfl) ?_
 refine Ht.cond (decide ((j : Int) < (L.length : Int))) (by kernel_rfl) (by kernel_rfl) (fun hc => ?_) (fun hc => ?_)
 case refine_2 =>
  have hc := of_decide_eq_false hc
  rw [List.getElem?_eq_none (by omega)] at hg
  have hg : some s = some goal := hg
  cases hg
  refine Ht.exit (id := 2) (by kernel_rfl) ?_
  exact hQ _ _ _ _ hI hG (by kernel_rfl)
 have hc := of_decide_eq_true hc
 have hlt : j < L.length := by omega
 have hp := List.getElem?_eq_getElem hlt
 generalize L[j] = p at hp
 rw [hp] at hg
 have hg : (match fnM m b j p s with
   | none => none
   | some s' => fnsM m b L K (j + 1) s') = some goal := hg
 obtain ⟨s', hs'⟩ : ∃ s', fnM m b j p s = some s' := by
  cases h : fnM m b j p s with
  | none => rw [h] at hg; cases hg
  | some y => exact ⟨y, rfl⟩
 rw [hs'] at hg
 have hg : fnsM m b L K (j + 1) s' = some goal := hg
 refine Ht.skip (by kernel_rfl) ?_
 refine seqH.n ?_
 refine Ht.seq (by kernel_rfl) ?_
 refine Ht.block 3 (by kernel_rfl) ?_
 refine Ht.forget KF (Ht.st (σ' := Sf L j G) (by kernel_rfl) ?_)
 refine final15 n m hn hI hG hp hs' fun q' qf' G' σ h1 h2 h3 => ?_
 refine blkH.n ?_
 refine seqH.n ?_
 refine Ht.forget KF (Ht.st h3 ?_)
 refine Ht.region hxn (by kernel_rfl) ?_
 refine Ops.seg' 2 2 (by kernel_rfl) ?_
 refine Ops.done (by kernel_rfl) ?_
 refine ⟨K, by omega, j + 1, s', q', qf', G', by omega, hg, h1, h2, ?_⟩
 rw [← w64_nat (by omega)]
 kernel_rfl
end Go.Abs.Yg
namespace Go.Abs.Yh
open Go.Sort Go.Proofs Go.Abs.Ya Go.Abs.Yb Go.Abs.Yc Go.Abs.Yd Go.Abs.Ye Go.Abs.Yf Go.Abs.Yg
set_option linter.unusedVariables false
set_option maxRecDepth 100000
set_option maxHeartbeats 4000000
def srtH (q : Nat) (A : List S53) (h : List AObj) : List AObj := match A with
 | [] => h
 | a :: r => h.set q (oA (srtC cmpA (a :: r)))
theorem sA {h : List AObj} {q : Nat} {A : List S53} (hb : A.length < 1000000) (hq : A ≠ [] → h[q]? = some (oA A)) : sortA [rA q A, .v (.fn 36)] h = some (U, srtH q A h) := by
 cases A with
 | nil => rfl
 | cons a r => exact row_sort35 h q (a :: r) _ (by unfold srt35; rw [if_pos (by omega)]) (hq (List.cons_ne_nil _ _))
theorem rA_srt (q : Nat) (A : List S53) : rA q A = rA q (srtC cmpA A) := by
 have hl := srtA_length A
 cases A with
 | nil => rw [List.eq_nil_of_length_eq_zero hl]
 | cons a r =>
  cases hs : srtC cmpA (a :: r) with
  | nil => rw [hs] at hl; simp at hl
  | cons x y =>
   rw [hs] at hl
   simp only [List.length_cons] at hl
   simp only [rA, List.map_cons, rowF, List.length_cons, List.length_map, hl]
abbrev oS (ss : List FS) : AObj := rowO 2 (ss.map encS)
abbrev rS (q : Nat) (ss : List FS) : D := rowF .nil q (ss.map encS)
def srtS (q : Nat) (ss : List FS) (h : List AObj) : List AObj := match ss with
 | [] => h
 | a :: r => h.set q (oS (srtC cfS (a :: r)))
theorem sS {h : List AObj} {q : Nat} {ss : List FS} (hb : ss.length < 1000000) (hq : ss ≠ [] → h[q]? = some (oS ss)) : sortF58 [rS q ss, .v (.fn 38)] h = some (U, srtS q ss h) := by
 cases ss with
 | nil => rfl
 | cons a r =>
  have hq := hq (List.cons_ne_nil _ _)
  have h1 : rS q (a :: r) = .osl q 0 ((a :: r).map encS).length false := rfl
  have h2 : oS (a :: r) = .row 2 ((a :: r).map encS) := rfl
  rw [h2] at hq
  rw [h1]
  simp only [sortF58, sortFnF, hq]
  rw [if_pos ⟨trivial, trivial, trivial, by simp, by rw [List.length_map]; omega⟩, allM_decS, Option.map_some]
  have h3 : oS (srtC cfS (a :: r)) = .row 2 ((srtC cfS (a :: r)).map encS) := by
   cases hs : srtC cfS (a :: r) with
   | nil => have := srtS_length (a :: r); rw [hs] at this; simp at this
   | cons a b => rfl
  show _ = some (U, h.set q (oS (srtC cfS (a :: r))))
  rw [h3]
theorem rS_srt (q : Nat) (ss : List FS) : rS q ss = rS q (srtC cfS ss) := by
 have hl := srtS_length ss
 cases ss with
 | nil => rw [List.eq_nil_of_length_eq_zero hl]
 | cons a r =>
  cases hs : srtC cfS (a :: r) with
  | nil => rw [hs] at hl; simp at hl
  | cons x y =>
   rw [hs] at hl
   simp only [List.length_cons] at hl
   simp only [rS, List.map_cons, rowF, List.length_cons, List.length_map, hl]
def finS (F : List S58) : Option (List FS) := allM decS (F.map e58)
theorem finS_spec {F : List S58} {ss : List FS} (h : finS F = some ss) : F.map e58 = ss.map encS := allM_s (fun {v x} h => decS_spec h) h
def f15 (m : Nat) (b : S45) (L : List S75) (M : List S79) : Option S28 :=
 if L ≠ [] ∧ L.length < 1000000 ∧ M.length < 100000000 then match mvsM m b L M (List.replicate L.length 0, [], (L.length : Int)) with
  | none => none
  | some s => match fnsM m b L 1000000 0 (s, []) with
   | none => none
   | some (s', F) => if s'.2.1.length < 1000000 ∧ F.length < 1000000 then match finS F with
     | none => none
     | some ss => some ⟨s'.2.2, srtC cmpA s'.2.1, (srtC cfS ss).map fun x => ⟨(x.val : Int), 0⟩⟩
    else none
 else none
theorem ms22 (h : List AObj) (n : Nat) (hn : n < 1000000) : makeSliceD TM 22 h (dI n) (dI n) = some (.osl h.length 0 n false, h ++ [.row 1 (List.replicate n (vI 0))]) := by
 have h1 : TM 22 = some ti22 := rfl
 have h2 : TM 3 = some ti3 := rfl
 have h3 : natOf (dI n) = some n := by simp [natOf]
 unfold makeSliceD
 simp only [h1, show ti22.kind = .slice 3 from rfl, h3, h2]
 rw [if_pos ⟨Nat.le_refl _, by show n * 8 ≤ _; omega, by unfold maxLen; omega, by decide, rfl, rfl⟩]
 rfl
def Fin15 (o : S28) (σ : St) : Prop := ∃ d, resultsD TM σ (resOf Try.prog 15) = some d ∧ frz σ.heap 15 d = some (e28 o)
theorem end15 (n : Nat) (hn : 1 ≤ n) {b : S45} {L : List S75} {W : List Int} {q : Nat} {A : List S53} {st : Int} {qf : Nat} {F : List S58} {G : List AObj} (hI : FInv b L W q A st qf F G) (hA : A.length < 1000000) {ss : List FS} (hs : F.map e58 = ss.map encS) (hF : F.length < 1000000) {Q : Post}
  (hQ : ∀ σ, Fin15 ⟨st, srtC cmpA A, (srtC cfS ss).map fun x => ⟨(x.val : Int), 0⟩⟩ σ → Q .ret σ) :
  Ht False Try.prog (cR U15) (Sm 116 [(6, .ptr 2 0), (7, .ptr 3 0)] G) Q := by
 have hxn := hxM n
 have hsl : ss.length = F.length := by have := congrArg List.length hs; simpa using this.symm
 have hFss : ss ≠ [] → F ≠ [] := fun h e => h (List.eq_nil_of_length_eq_zero (by rw [hsl, e]; rfl))
 have hrF : rF qf F = rS qf ss := by show rowF .nil qf (F.map e58) = rowF .nil qf (ss.map encS); rw [hs]
 have hoF : ss ≠ [] → G[qf]? = some (oS ss) := fun h => by have := hI.hf (hFss h); rw [hs] at this; exact this
 have hr3 := hI.m.hr
 rw [hrF] at hr3
 have q3 : ∀ {x : AObj}, A ≠ [] → (G.set q x)[3]? = some (mC st q A (rS qf ss)) := fun e => set_keep (hI.m.ne e) hr3
 have k1 : (srtH q A G)[3]? = some (mC st q A (rS qf ss)) := by
  cases A with
  | nil => exact hr3
  | cons a r => exact q3 (List.cons_ne_nil _ _)
 have k2 : (srtH q A G)[2]? = some zM := by
  cases A with
  | nil => exact hI.g2
  | cons a r => exact set_keep (by have := hI.q6 (List.cons_ne_nil _ _); omega) hI.g2
 have k3 : ss ≠ [] → (srtH q A G)[qf]? = some (oS ss) := fun e => by
  cases A with
  | nil => exact hoF e
  | cons a r => exact set_keep (Ne.symm (hI.qq (List.cons_ne_nil _ _) (hFss e))) (hoF e)
 have k4 : A ≠ [] → (srtH q A G)[q]? = some (oA (srtC cmpA A)) := fun e => by
  cases A with
  | nil => exact absurd rfl e
  | cons a r => exact List.getElem?_set_self (lt_of_getElem? (hI.m.hq (List.cons_ne_nil _ _)))
 refine Ht.seq (by kernel_rfl) ?_
 refine Ht.regionCall' hxn 2 (t := 111) (args := [.tmp 110, .func 36]) (Qc := fun d h' => d = U ∧ h' = srtH q A G) (by kernel_rfl) is35 ?_
 refine OpsU.seg' 1 1 (by kernel_rfl) ?_
 refine OpsU.one' 2 (fun h0 e0 => ldc (i := ti26) (h := h0) (r := 3) (off := 1) (cs := [dI st, rA q A, rS qf ss]) (d := rA q A) (hq_of (g := G) (e0.trans (by kernel_rfl)) hr3) (by cases A <;> rfl)) (by kernel_rfl) (by kernel_rfl) ?_
 refine OpsU.done ⟨callT_eq (by kernel_rfl) (by kernel_rfl) (dcall sort35 (sA hA hI.m.hq)), fun d h' hd => ?_⟩
 obtain ⟨rfl, rfl⟩ := hd
 refine Ops.done (by kernel_rfl) ?_
 refine seqH.n ?_
 refine Ht.forget [6, 7] (Ht.st (σ' := Sm 116 [(6, .ptr 2 0), (7, .ptr 3 0)] (srtH q A G)) (by kernel_rfl) ?_)
 have j1 : (srtS qf ss (srtH q A G))[3]? = some (mC st q A (rS qf ss)) := by
  cases ss with
  | nil => exact k1
  | cons a r => exact set_keep (by have := hI.f6 (hFss (List.cons_ne_nil _ _)); omega) k1
 have j2 : (srtS qf ss (srtH q A G))[2]? = some zM := by
  cases ss with
  | nil => exact k2
  | cons a r => exact set_keep (by have := hI.f6 (hFss (List.cons_ne_nil _ _)); omega) k2
 have j4 : A ≠ [] → (srtS qf ss (srtH q A G))[q]? = some (oA (srtC cmpA A)) := fun e => by
  cases ss with
  | nil => exact k4 e
  | cons a r => exact set_keep (hI.qq e (hFss (List.cons_ne_nil _ _))) (k4 e)
 have j5 : ss ≠ [] → (srtS qf ss (srtH q A G))[qf]? = some (oS (srtC cfS ss)) := fun e => by
  cases ss with
  | nil => exact absurd rfl e
  | cons a r => exact List.getElem?_set_self (lt_of_getElem? (k3 (List.cons_ne_nil _ _)))
 generalize srtH q A G = K at k1 k2 k3 j1 j2 j4 j5 ⊢
 refine Ht.seq (by kernel_rfl) ?_
 refine Ht.regionCall' hxn 2 (t := 114) (args := [.tmp 113, .func 38]) (Qc := fun d h' => d = U ∧ h' = srtS qf ss K) (by kernel_rfl) is37 ?_
 refine OpsU.seg' 1 1 (by kernel_rfl) ?_
 refine OpsU.one' 2 (fun h0 e0 => ldc (i := ti27) (h := h0) (r := 3) (off := 2) (cs := [dI st, rA q A, rS qf ss]) (d := rS qf ss) (hq_of (g := K) (e0.trans (by kernel_rfl)) k1) (by cases ss <;> rfl)) (by kernel_rfl) (by kernel_rfl) ?_
 refine OpsU.done ⟨callT_eq (by kernel_rfl) (by kernel_rfl) (dcall sort37 (sS (by omega) k3)), fun d h' hd => ?_⟩
 obtain ⟨rfl, rfl⟩ := hd
 refine Ops.done (by kernel_rfl) ?_
 refine seqH.n ?_
 refine Ht.forget [6, 7] (Ht.st (σ' := Sm 116 [(6, .ptr 2 0), (7, .ptr 3 0)] (srtS qf ss K)) (by kernel_rfl) ?_)
 generalize srtS qf ss K = K2 at j1 j2 j4 j5 ⊢
 refine Ht.seq (by kernel_rfl) ?_
 refine Ht.region hxn (by kernel_rfl) ?_
 refine Ops.one' 1 (fun h0 e0 => ldc (i := ti29) (h := h0) (r := 3) (off := 0) (cs := [dI st, rA q A, rS qf ss]) (d := mkAgg [dI st, rA q A, rS qf ss]) (hq_of (g := K2) (e0.trans (by kernel_rfl)) j1) rfl) (by kernel_rfl) (by kernel_rfl) ?_
 refine Ops.one' 2 (fun h0 e0 => st_s (i := ti29) (h := h0) (r := 2) (off := 0) (cs := [dI 0, .v (.sl .nil []), .v (.sl .nil [])]) (cs' := [dI st, rA q A, rS qf ss]) (ds := [dI st, rA q A, rS qf ss]) (hq_of (g := K2) (e0.trans (by kernel_rfl)) j2) rfl (all_sc rfl (all_sc (rowF_sc _ _ _) (all_sc (rowF_sc _ _ _) rfl))) rfl) (by kernel_rfl) (by kernel_rfl) ?_
 refine Ops.done (by kernel_rfl) ?_
 refine seqH.n ?_
 refine Ht.ret (by kernel_rfl) ?_
 have l2 : (K2.set 2 (.cells [dI st, rA q A, rS qf ss]))[2]? = some (.cells [dI st, rA q A, rS qf ss]) := List.getElem?_set_self (lt_of_getElem? j2)
 have l4 : (K2.set 2 (.cells [dI st, rA q A, rS qf ss]))[q]? = some (oA (srtC cmpA A)) ∨ A = [] := by
  by_cases e : A = []
  ·exact .inr e
  ·exact .inl (set_keep (by have := hI.q6 e; omega) (j4 e))
 have l5 : (K2.set 2 (.cells [dI st, rA q A, rS qf ss]))[qf]? = some (oS (srtC cfS ss)) ∨ ss = [] := by
  by_cases e : ss = []
  ·exact .inr e
  ·exact .inl (set_keep (by have := hI.f6 (hFss e); omega) (j5 e))
 have fin : ∀ σ : St, σ.tmps.getD 6 .undef = .ptr 2 0 → σ.heap = K2.set 2 (.cells [dI st, rA q A, rS qf ss]) → Fin15 ⟨st, srtC cmpA A, (srtC cfS ss).map fun x => ⟨(x.val : Int), 0⟩⟩ σ := fun σ h6 hh => by
  have hr : resOf Try.prog 15 = [.cell 6 29] := by kernel_rfl
  have hT : TM 29 = some ti29 := rfl
  have e1 : loadD ti29 σ.heap (.ptr 2 0) = some (mkAgg [dI st, rA q A, rS qf ss]) := by
   rw [hh]
   have := ldc (i := ti29) (off := 0) (d := mkAgg [dI st, rA q A, rS qf ss]) l2 rfl
   obtain ⟨x, h1, h2⟩ := Option.map_eq_some_iff.1 this
   rw [h1]; cases h2; rfl
  refine ⟨mkAgg [dI st, rA q A, rS qf ss], ?_, ?_⟩
  ·rw [hr]; simp only [resultsD, allM, resultD, h6, hT, e1]
  ·rw [hh]
   generalize K2.set 2 (.cells [dI st, rA q A, rS qf ss]) = H at l4 l5 ⊢
   rw [rA_srt, rS_srt]
   have f1 : Abs.frz H 14 (rA q (srtC cmpA A)) = some (.sl .plain ((srtC cmpA A).map e53)) := by
    rcases l4 with h | h
    ·exact row_frz _ 13 q 5 _ h
    ·subst h
     have : srtC cmpA ([] : List S53) = [] := List.eq_nil_of_length_eq_zero (srtA_length [])
     rw [this]; rfl
   have f2 : Abs.frz H 14 (rS qf (srtC cfS ss)) = some (.sl .plain ((srtC cfS ss).map encS)) := by
    rcases l5 with h | h
    ·exact row_frz _ 13 qf 2 _ h
    ·subst h
     have : srtC cfS ([] : List FS) = [] := List.eq_nil_of_length_eq_zero (srtS_length [])
     rw [this]; rfl
   have f3 := mkAgg_frz (h := H) (n := 13) (.cons (dI st) (vI st) rfl rfl (.cons _ _ f1 (rowF_na _ _ _) (.cons _ _ f2 (rowF_na _ _ _) .nil)))
   have f4 : ((srtC cfS ss).map fun x => (⟨(x.val : Int), 0⟩ : S58)).map e58 = (srtC cfS ss).map encS := by rw [List.map_map]; rfl
   rw [f3]
   show _ = some (V.agg [vI st, .sl .plain ((srtC cmpA A).map e53), .sl .plain (((srtC cfS ss).map fun x => (⟨(x.val : Int), 0⟩ : S58)).map e58)])
   rw [f4]
 exact hQ _ (fin _ (by kernel_rfl) (by kernel_rfl))
theorem ma15 (n m : Nat) (hn : m + 3 ≤ n) (b : S45) (L : List S75) (M : List S79) (o : S28) (h : f15 m b L M = some o) :
  Ht False Try.prog (bodyOf Try.prog 15) (startIn Try.prog 15 [.vptr (bc b), dP e75 L, dP e79 M] []) (fun e σ => (e = .normal ∨ e = .ret) ∧ Fin15 o σ) := by
 have hxn := hxM n
 unfold f15 at h
 split at h
 case isFalse => cases h
 rename_i hb
 obtain ⟨hL, hl, hM⟩ := hb
 split at h
 ·cases h
 rename_i s hs
 split at h
 ·cases h
 rename_i s' F hF
 split at h
 case isFalse => cases h
 rename_i hc
 split at h
 ·cases h
 rename_i ss hss
 cases h
 show Ht False Try.prog C15 _ _
 refine Ht.seq (by kernel_rfl) ?_
 refine Ht.region hxn (by kernel_rfl) ?_
 refine Ops.seg' 3 3 (by kernel_rfl) ?_
 refine Ops.done (by kernel_rfl) ?_
 refine seqH.n ?_
 refine Ht.seq (by kernel_rfl) ?_
 refine Ht.region hxn (by kernel_rfl) ?_
 refine Ops.seg' 1 1 (by kernel_rfl) ?_
 refine Ops.one' 2 (fun h0 e0 => len_r (T := TM) h0 48 76 .plain e75 L (by kernel_rfl)) (by kernel_rfl) (by kernel_rfl) ?_
 refine Ops.seg' 3 5 (by kernel_rfl) ?_
 refine Ops.done (by kernel_rfl) ?_
 refine seqH.n ?_
 refine Ht.forget [2, 3, 4, 6, 7] (Ht.st (σ' := Sm 116 [(2, dP e79 M), (3, .ptr 0 0), (4, .ptr 1 0), (6, .ptr 2 0), (7, .ptr 3 0)] [.cells [.vptr (bc b)], .cells [dP e75 L], zM, mC L.length 0 [] (rF 0 [])]) (by kernel_rfl) ?_)
 refine Ht.seq (by kernel_rfl) ?_
 refine Ht.region hxn (by kernel_rfl) ?_
 refine Ops.seg' 1 1 (by kernel_rfl) ?_
 refine Ops.one' 2 (fun h0 e0 => len_r (T := TM) h0 48 76 .plain e75 L (by kernel_rfl)) (by kernel_rfl) (by kernel_rfl) ?_
 refine Ops.one' 3 (fun h0 e0 => ms22 h0 L.length hl) (by kernel_rfl) (by kernel_rfl) ?_
 refine Ops.seg' 2 5 (by kernel_rfl) ?_
 refine Ops.done (by kernel_rfl) ?_
 refine seqH.n ?_
 refine Ht.forget [2, 3, 4, 6, 7, 8] (Ht.st (σ' := Sm 116 [(2, dP e79 M), (3, .ptr 0 0), (4, .ptr 1 0), (6, .ptr 2 0), (7, .ptr 3 0), (8, .ptr 5 0)] [.cells [.vptr (bc b)], .cells [dP e75 L], zM, mC L.length 0 [] (rF 0 []), .row 1 (List.replicate L.length (vI 0)), .cells [.osl 4 0 L.length false]]) (by kernel_rfl) ?_)
 have hI : FInv b L (List.replicate L.length 0) 0 [] L.length 0 [] [.cells [.vptr (bc b)], .cells [dP e75 L], zM, mC L.length 0 [] (rF 0 []), .row 1 (List.replicate L.length (vI 0)), .cells [.osl 4 0 L.length false]] := by
  obtain ⟨x, r, rfl⟩ := List.exists_cons_of_ne_nil hL
  have e1 : (List.replicate (x :: r).length (0 : Int)).map eI = List.replicate (x :: r).length (vI 0) := by rw [List.map_replicate]; rfl
  refine ⟨rfl, rfl, rfl, ⟨rfl, fun e => absurd rfl e, fun e => absurd rfl e⟩, ?_, ?_, fun e => absurd rfl e, fun e => absurd rfl e, fun e => absurd rfl e⟩
  ·rw [e1]; rfl
  ·show some (AObj.cells [.osl 4 0 (x :: r).length false]) = some (.cells [rowF .nil 4 ((List.replicate (x :: r).length (0 : Int)).map eI)])
   rw [e1]
   simp [rowF, List.replicate_succ]
 generalize hGG : [AObj.cells [.vptr (bc b)], .cells [dP e75 L], zM, mC L.length 0 [] (rF 0 []), .row 1 (List.replicate L.length (vI 0)), .cells [.osl 4 0 L.length false]] = G at hI ⊢
 have hG : 6 ≤ G.length := by rw [← hGG]; exact Nat.le_refl _
 refine Ht.seq (by kernel_rfl) ?_
 refine Ht.region hxn (by kernel_rfl) ?_
 refine Ops.seg' 2 2 (by kernel_rfl) ?_
 refine Ops.done (by kernel_rfl) ?_
 refine seqH.n ?_
 refine Ht.forget [2, 3, 4, 6, 7, 8, 9] (Ht.st (σ' := Sm 116 [(2, dP e79 M), (3, .ptr 0 0), (4, .ptr 1 0), (6, .ptr 2 0), (7, .ptr 3 0), (8, .ptr 5 0), (9, clo)] G) (by kernel_rfl) ?_)
 refine Ht.seq (by kernel_rfl) ?_
 refine Ht.seq (by kernel_rfl) ?_
 refine Ht.region hxn (by kernel_rfl) ?_
 refine Ops.seg' 1 1 (by kernel_rfl) ?_
 refine Ops.one' 2 (fun h0 e0 => len_r (T := TM) h0 49 80 .plain e79 M (by kernel_rfl)) (by kernel_rfl) (by kernel_rfl) ?_
 refine Ops.seg' 1 3 (by kernel_rfl) ?_
 refine Ops.done (by kernel_rfl) ?_
 refine seqH.n ?_
 refine Ht.block 0 (by kernel_rfl) ?_
 refine Ht.forget KM (Ht.st (σ' := Sm1 M 0 G) (by kernel_rfl) ?_)
 refine moves15 n m hn (s := (List.replicate L.length 0, [], (L.length : Int))) hI hG hM hs fun q1 G1 σ h1 h2 h3 => ?_
 refine blkH.x ?_
 refine seqH.n ?_
 refine Ht.forget [3, 4, 6, 7, 8, 9] (Ht.st h3 ?_)
 refine Ht.seq (by kernel_rfl) ?_
 refine Ht.seq (by kernel_rfl) ?_
 refine Ht.region hxn (by kernel_rfl) ?_
 refine Ops.one' 1 (fun h0 e0 => ldc (i := ti48) (h := h0) (r := 1) (off := 0) (cs := [dP e75 L]) (d := dP e75 L) (hq_of (g := G1) (e0.trans (by kernel_rfl)) h1.g1) rfl) (by kernel_rfl) (by kernel_rfl) ?_
 refine Ops.one' 2 (fun h0 e0 => len_r (T := TM) h0 48 76 .plain e75 L (by kernel_rfl)) (by kernel_rfl) (by kernel_rfl) ?_
 refine Ops.seg' 1 3 (by kernel_rfl) ?_
 refine Ops.done (by kernel_rfl) ?_
 refine seqH.n ?_
 refine Ht.block 2 (by kernel_rfl) ?_
 refine Ht.forget KF (Ht.st (σ' := Sf L 0 G1) (by kernel_rfl) ?_)
 refine finals15 n m hn (s := (s, [])) h1 h2 (Nat.le_refl _) hF fun q2 qf2 G2 σ g1 g2 g3 => ?_
 refine blkH.x ?_
 refine seqH.n ?_
 refine Ht.forget [6, 7] (Ht.st g3 ?_)
 exact end15 n (by omega) g1 hc.1 (finS_spec hss) hc.2 fun σ hσ => ⟨.inr rfl, hσ⟩
end Go.Abs.Yh
