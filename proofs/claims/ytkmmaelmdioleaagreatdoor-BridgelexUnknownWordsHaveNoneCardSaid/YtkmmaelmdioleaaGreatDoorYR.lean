import Derived.Test.YtkmmaelmdioleaaGreatDoorWF2
import Derived.Test.YtkmmaelmdioleaaGreatDoorUX
import Derived.Test.YtkmmaelmdioleaaGreatDoorPD
import Derived.Test.YtkmmaelmdioleaaGreatDoorAbsPc
namespace Go.Abs
open Go.Sort Go.Proofs
set_option linter.unusedVariables false
set_option linter.unusedSimpArgs false
set_option linter.unnecessarySimpa false
set_option maxRecDepth 100000
set_option maxHeartbeats 2000000
theorem Fn_det {P : Program} {E : Env} {n f : Nat} {xs : List D} {r r' : V} (h : Fn P E n f xs r) (g : Fn P E n f xs r') : r = r' := by
 obtain ⟨d, h1, a1, a2⟩ := h
 obtain ⟨d', h2, b1, b2⟩ := g
 rw [a1] at b1
 cases b1
 rw [a2] at b2
 exact Option.some.inj b2
open Classical in
noncomputable def oraEv (P : Program) (E : Env) (f : Nat) : List V → Option V := fun xs => if h : ∃ r, ∃ n0 : Nat, ∀ n, n0 ≤ n → Fn P E n f (xs.map .v) r then some (Classical.choose h) else none
theorem oraEv_eq {P : Program} {E : Env} {f : Nat} {xs : List V} {r : V} {n0 : Nat} (h : ∀ n, n0 ≤ n → Fn P E n f (xs.map .v) r) : oraEv P E f xs = some r := by
 have hx : ∃ r, ∃ n0 : Nat, ∀ n, n0 ≤ n → Fn P E n f (xs.map .v) r := ⟨r, n0, h⟩
 unfold oraEv
 rw [dif_pos hx]
 obtain ⟨n1, h1⟩ := Classical.choose_spec hx
 rw [Fn_det (h1 (max n0 n1) (Nat.le_max_right ..)) (h (max n0 n1) (Nat.le_max_left ..))]
theorem oraEv_ok {DR : Prop} {P : Program} {E : Env} (hG : Good DR P E) {f : Nat} (hIs : Is P f) : OraOk DR P f (oraEv P E f) := by
 refine ⟨hIs, fun vs r hF S w us hrel hs hg => ?_⟩
 unfold oraEv at hF
 split at hF
 case isFalse => cases hF
 rename_i hx
 cases hF
 obtain ⟨n1, h1⟩ := Classical.choose_spec hx
 obtain ⟨d, h', a1, a2⟩ := h1 n1 (Nat.le_refl _)
 exact (pureCalls hG a1 a2).2 S w us hrel hs hg
theorem isg13 : Is Proofs.Tryz.prog 13 := ⟨Proofs.Tryz.f13, Proofs.Tryz.func13, by kernel_rfl, by kernel_rfl⟩
theorem isg14 : Is Proofs.Tryz.prog 14 := ⟨Proofs.Tryz.f14, Proofs.Tryz.func14, by kernel_rfl, by kernel_rfl⟩
theorem isg15 : Is Proofs.Tryz.prog 15 := ⟨Proofs.Tryz.f15, Proofs.Tryz.func15, by kernel_rfl, by kernel_rfl⟩
theorem isg28 : Is Proofs.Tryz.prog 28 := ⟨Proofs.Tryz.f28, Proofs.Tryz.func28, by kernel_rfl, by kernel_rfl⟩
theorem isg31 : Is Proofs.Tryz.prog 31 := ⟨Proofs.Tryz.f31, Proofs.Tryz.func31, by kernel_rfl, by kernel_rfl⟩
theorem isg34 : Is Proofs.Tryz.prog 34 := ⟨Proofs.Tryz.f34, Proofs.Tryz.func34, by kernel_rfl, by kernel_rfl⟩
theorem isg35 : Is Proofs.Tryz.prog 35 := ⟨Proofs.Tryz.f35, Proofs.Tryz.func35, by kernel_rfl, by kernel_rfl⟩
theorem isg6 : Is Proofs.Tryz.prog 6 := ⟨Proofs.Tryz.f6, Proofs.Tryz.func6, by kernel_rfl, by kernel_rfl⟩
theorem isg7 : Is Proofs.Tryz.prog 7 := ⟨Proofs.Tryz.f7, Proofs.Tryz.func7, by kernel_rfl, by kernel_rfl⟩
noncomputable def oraH (f : Nat) : Option (List V → Option V) := match f with
 | 39 => some Uv.F39
 | 14 => some (oraEv Proofs.Tryz.prog E 14)
 | 28 => some (oraEv Proofs.Tryz.prog E 28)
 | 31 => some (oraEv Proofs.Tryz.prog E 31)
 | 34 => some (oraEv Proofs.Tryz.prog E 34)
 | 35 => some (oraEv Proofs.Tryz.prog E 35)
 | f => oraT f
noncomputable def EH : Env := { E with ora := oraH, pureF := fun f => f == 39 || E.pureF f }
theorem oraH_ok : OSound False Proofs.Tryz.prog EH := by
 intro f F h
 have h : oraH f = some F := h
 unfold oraH at h
 split at h
 ·cases h; exact Uv.ora39
 ·cases h; exact oraEv_ok good isg14
 ·cases h; exact oraEv_ok good isg28
 ·cases h; exact oraEv_ok good isg31
 ·cases h; exact oraEv_ok good isg34
 ·cases h; exact oraEv_ok good isg35
 ·exact ora_ok f F h
theorem goodH : Good False Proofs.Tryz.prog EH := ⟨good.mixed, T_ok, names_ok, oraH_ok, (fun f F h => by cases h)⟩
theorem ok14h (m : Nat) (a0 : ByteArray) (o : Bool) (h : f14 m a0 = some o) (n : Nat) (hn : m + 3 ≤ n) : Fn Proofs.Tryz.prog EH n 14 [.v (eS a0)] (eB o) := by
 obtain ⟨n, rfl⟩ : ∃ q, n = q + 1 := ⟨n - 1, by omega⟩
 exact ora_fn (F := oraEv Proofs.Tryz.prog E 14) (xs := [eS a0]) (by kernel_rfl) rfl rfl (oraEv_eq fun k hk => ok14 m a0 o h k hk) rfl
theorem ok28h (m : Nat) (a0 : S32) (a1 : S32) (o : (S32 × S26)) (h : f28 m a0 a1 = some o) (n : Nat) (hn : m + 5 ≤ n) : Fn Proofs.Tryz.prog EH n 28 [.v (e32 a0), .v (e32 a1)] (.tuple [e32 o.1, e26 o.2]) := by
 obtain ⟨n, rfl⟩ : ∃ q, n = q + 1 := ⟨n - 1, by omega⟩
 exact ora_fn (F := oraEv Proofs.Tryz.prog E 28) (xs := [e32 a0, e32 a1]) (by kernel_rfl) rfl rfl (oraEv_eq fun k hk => ok28 m a0 a1 o h k hk) rfl
theorem ok31h (m : Nat) (a0 : ByteArray) (o : ((List Int) × S26)) (h : f31 m a0 = some o) (n : Nat) (hn : m + 2 ≤ n) : Fn Proofs.Tryz.prog EH n 31 [.v (eS a0)] (.tuple [(eL eI) o.1, e26 o.2]) := by
 obtain ⟨n, rfl⟩ : ∃ q, n = q + 1 := ⟨n - 1, by omega⟩
 exact ora_fn (F := oraEv Proofs.Tryz.prog E 31) (xs := [eS a0]) (by kernel_rfl) rfl rfl (oraEv_eq fun k hk => ok31 m a0 o h k hk) rfl
theorem ok34h (m : Nat) (a0 : (List Int)) (o : S32) (h : f34 m a0 = some o) (n : Nat) (hn : m + 1 ≤ n) : Fn Proofs.Tryz.prog EH n 34 [.v ((eL eI) a0)] (e32 o) := by
 obtain ⟨n, rfl⟩ : ∃ q, n = q + 1 := ⟨n - 1, by omega⟩
 exact ora_fn (F := oraEv Proofs.Tryz.prog E 34) (xs := [(eL eI) a0]) (by kernel_rfl) rfl rfl (oraEv_eq fun k hk => ok34 m a0 o h k hk) rfl
theorem ok35h (m : Nat) (a0 : S32) (o : ((List S108) × S26)) (h : f35 m a0 = some o) (n : Nat) (hn : m + 7 ≤ n) : Fn Proofs.Tryz.prog EH n 35 [.v (e32 a0)] (.tuple [(eL e108) o.1, e26 o.2]) := by
 obtain ⟨n, rfl⟩ : ∃ q, n = q + 1 := ⟨n - 1, by omega⟩
 exact ora_fn (F := oraEv Proofs.Tryz.prog E 35) (xs := [e32 a0]) (by kernel_rfl) rfl rfl (oraEv_eq fun k hk => ok35 m a0 o h k hk) rfl
end Go.Abs
namespace Go.Abs.Rs
open Go.Sort Go.Proofs
set_option linter.unusedVariables false
set_option maxRecDepth 100000
set_option maxHeartbeats 4000000
def zA : S34 := ⟨⟨0, [], []⟩, []⟩
noncomputable def XH (n : Nat) : Cx := ⟨{ EH with dynP := true }, run Tryz.prog EH n, ⟨fun _ => [], fun _ => [], fun _ => []⟩, [], n⟩
theorem hxH (n : Nat) : Hx False Tryz.prog (XH n) := ⟨goodH.mixed, T_ok, run_sound goodH n⟩
def Sm (n : Nat) (l : List (Nat × D)) (h : List AObj) : St := ⟨(List.range n).map fun i => (l.lookup i).getD .undef, h⟩
theorem seqH.x {DR : Prop} {P : Program} {b : Code} {Q : Post} {id : Nat} {σ : St} (h : Q (.exit id) σ) : seqH DR P b Q (.exit id) σ := h
theorem seqH.r {DR : Prop} {P : Program} {b : Code} {Q : Post} {σ : St} (h : Q .ret σ) : seqH DR P b Q .ret σ := h
theorem lpH.x {I : Nat → St → Prop} {m : Nat} {Q : Post} {id : Nat} {σ : St} (h : Q (.exit id) σ) : lpH I m Q (.exit id) σ := h
theorem blkH.n {id : Nat} {Q : Post} {σ : St} (h : Q .normal σ) : blkH id Q .normal σ := h
theorem Ht.st {DR : Prop} {P : Program} {c : Code} {σ σ' : St} {Q : Post} (e : σ = σ') (h : Ht DR P c σ' Q) : Ht DR P c σ Q := by rw [e]; exact h
noncomputable abbrev C16 : Code := bodyOf Tryz.prog 16
abbrev MR : Nat := 5000
def nilD : D := .v (.sl .nil [])
structure GoodW (w : ByteArray) (l : List Int) : Prop where
 ok : f14 MR w = some true
 dec : f31 MR w = some (l, ⟨0, 0⟩)
 len : l.length ≤ 30
 pts : ∀ x ∈ l, 1 ≤ x ∧ x < 983040
abbrev cF : AObj := .cells [dI 0, dI 0]
theorem walk16 (w : ByteArray) (l : List Int) (h : GoodW w l) : Ht False Tryz.prog C16 (startIn Tryz.prog 16 [.v (e34 zA), .v (eS w)] []) (fun e σ => (e = .normal ∨ e = .ret) ∧ ∃ d, resultsD T σ (resOf Tryz.prog 16) = some d ∧ frz σ.heap 15 d = some (.tuple [.sl .plain [], e26 ⟨0, 0⟩])) := by
 have hx := hxH 5100
 refine Ht.seq (by kernel_rfl) ?_
 refine Ht.region hx (by kernel_rfl) ?_
 refine Ops.seg' 3 3 (by kernel_rfl) ?_
 refine Ops.done (by kernel_rfl) ?_
 refine seqH.n ?_
 refine Ht.seq (by kernel_rfl) ?_
 refine Ht.seq (by kernel_rfl) ?_
 refine Ht.region hx (by kernel_rfl) ?_
 refine Ops.seg' 1 1 (by kernel_rfl) ?_
 refine Ops.one' 2 (fun h0 e0 => call_ok (E' := (XH 5100).E) (h := h0) (by kernel_rfl) (Args.v (.str w) (eS w) (by kernel_rfl) Args.nil) (ok14h MR w true h.ok 5100 (by decide))) (by kernel_rfl) (by kernel_rfl) ?_
 refine Ops.seg' 1 3 (by kernel_rfl) ?_
 refine Ops.done (by kernel_rfl) ?_
 refine seqH.n ?_
 refine Ht.cond false (by kernel_rfl) (by kernel_rfl) (fun h => nomatch h) (fun _ => ?_)
 refine Ht.skip (by kernel_rfl) ?_
 refine seqH.n ?_
 refine Ht.seq (by kernel_rfl) ?_
 refine Ht.region hx (by kernel_rfl) ?_
 refine Ops.seg' 1 1 (by kernel_rfl) ?_
 refine Ops.one' 2 (fun h0 e0 => call_ok (E' := (XH 5100).E) (h := h0) (by kernel_rfl) (Args.v (.str w) (eS w) (by kernel_rfl) Args.nil) (ok31h MR w (l, ⟨0, 0⟩) h.dec 5100 (by decide))) (by kernel_rfl) (by kernel_rfl) ?_
 refine Ops.seg' 6 8 (by kernel_rfl) ?_
 refine Ops.done (by kernel_rfl) ?_
 refine seqH.n ?_
 refine Ht.forget [2, 4, 5, 6] (Ht.st (σ' := Sm 67 [(2, .ptr 0 0), (4, nilD), (5, .ptr 1 0), (6, dP eI l)] [.cells [dI 0, .v (.sl .plain []), .v (.sl .plain []), .v (.sl .plain [])], cF, cF]) (by kernel_rfl) ?_)
 refine Ht.seq (by kernel_rfl) ?_
 refine Ht.regionTwo hx 8 33 27 8 9 30 31 6 7 ti33 ti27 (by kernel_rfl) rfl rfl (by kernel_rfl) (.v (e32 zM)) (.v (e26 ⟨0, 0⟩)) ?_
 refine OpsU.seg' 3 3 (by kernel_rfl) ?_
 refine OpsU.one' 4 (fun h0 e0 => call_ok (E' := (XH 5100).E) (h := h0) (by kernel_rfl) (Args.v (vP eI l) (eL eI l) (by kernel_rfl) Args.nil) (ok34h MR l (accM l) (f34_eq MR l h.len (by decide)) 5100 (by decide))) (by kernel_rfl) (by kernel_rfl) ?_
 refine OpsU.one' 5 (fun h0 e0 => call_ok (E' := (XH 5100).E) (h := h0) (by kernel_rfl) (Args.v (e32 zM) (e32 zM) (by kernel_rfl) (Args.v (e32 (accM l)) (e32 (accM l)) (by kernel_rfl) Args.nil)) (ok28h MR zM (accM l) (zM, ⟨0, 0⟩) (f28_acc MR l h.len h.pts (by decide)) 5100 (by decide))) (by kernel_rfl) (by kernel_rfl) ?_
 refine OpsU.seg' 3 8 (by kernel_rfl) ?_
 refine OpsU.done ⟨⟨by kernel_rfl, by kernel_rfl⟩, by kernel_rfl, ?_⟩
 refine seqH.n ?_
 refine Ht.forget [2, 4, 5, 8, 9] (Ht.st (σ' := Sm 67 [(2, .ptr 0 0), (4, nilD), (5, .ptr 1 0), (8, .ptr 3 0), (9, .ptr 4 0)] [.cells [dI 0, .v (.sl .plain []), .v (.sl .plain []), .v (.sl .plain [])], cF, cF, .cells [dI 0, .v (.sl .plain []), .v (.sl .plain [])], cF]) (by kernel_rfl) ?_)
 refine Ht.seq (by kernel_rfl) ?_
 refine Ht.seq (by kernel_rfl) ?_
 refine Ht.region hx (by kernel_rfl) ?_
 refine Ops.seg' 3 3 (by kernel_rfl) ?_
 refine Ops.done (by kernel_rfl) ?_
 refine seqH.n ?_
 refine Ht.cond false (by kernel_rfl) (by kernel_rfl) (fun h => nomatch h) (fun _ => ?_)
 refine Ht.skip (by kernel_rfl) ?_
 refine seqH.n ?_
 refine Ht.seq (by kernel_rfl) ?_
 refine Ht.region hx (by kernel_rfl) ?_
 refine Ops.seg' 1 1 (by kernel_rfl) ?_
 refine Ops.one' 2 (fun h0 e0 => call_ok (E' := (XH 5100).E) (h := h0) (by kernel_rfl) (Args.v (e32 zM) (e32 zM) (by kernel_rfl) Args.nil) (ok35h MR zM ([], ⟨0, 0⟩) (f35_zero MR (by decide)) 5100 (by decide))) (by kernel_rfl) (by kernel_rfl) ?_
 refine Ops.seg' 5 7 (by kernel_rfl) ?_
 refine Ops.done (by kernel_rfl) ?_
 refine seqH.n ?_
 refine Ht.seq (by kernel_rfl) ?_
 refine Ht.seq (by kernel_rfl) ?_
 refine Ht.region hx (by kernel_rfl) ?_
 refine Ops.seg' 3 3 (by kernel_rfl) ?_
 refine Ops.done (by kernel_rfl) ?_
 refine seqH.n ?_
 refine Ht.cond false (by kernel_rfl) (by kernel_rfl) (fun h => nomatch h) (fun _ => ?_)
 refine Ht.skip (by kernel_rfl) ?_
 refine seqH.n ?_
 refine Ht.seq (by kernel_rfl) ?_
 refine Ht.region hx (by kernel_rfl) ?_
 refine Ops.seg' 1 1 (by kernel_rfl) ?_
 refine Ops.done (by kernel_rfl) ?_
 refine seqH.n ?_
 refine Ht.seq (by kernel_rfl) ?_
 refine Ht.seq (by kernel_rfl) ?_
 refine Ht.region hx (by kernel_rfl) ?_
 refine Ops.seg' 3 3 (by kernel_rfl) ?_
 refine Ops.done (by kernel_rfl) ?_
 refine seqH.n ?_
 refine Ht.block 0 (by kernel_rfl) ?_
 refine Ht.forget [4, 5, 11, 46, 47] (Ht.st (σ' := Sm 67 [(4, nilD), (5, .ptr 1 0), (11, nilD), (46, dI 0), (47, dI 0)] [.cells [dI 0, .v (.sl .plain []), .v (.sl .plain []), .v (.sl .plain [])], cF, cF, .cells [dI 0, .v (.sl .plain []), .v (.sl .plain [])], cF]) (by kernel_rfl) ?_)
 refine Ht.loop (fun k σ => σ = Sm 67 [(4, nilD), (5, .ptr 1 0), (11, nilD), (46, dI 0), (47, dI 0)] [.cells [dI 0, .v (.sl .plain []), .v (.sl .plain []), .v (.sl .plain [])], cF, cF, .cells [dI 0, .v (.sl .plain []), .v (.sl .plain [])], cF]) 1 (by kernel_rfl) rfl ?_
 rintro k σ rfl
 refine Ht.seq (by kernel_rfl) ?_
 refine Ht.region hx (by kernel_rfl) ?_
 refine Ops.seg' 1 1 (by kernel_rfl) ?_
 refine Ops.done (by kernel_rfl) ?_
 refine seqH.n ?_
 refine Ht.seq (by kernel_rfl) ?_
 refine Ht.cond false (by kernel_rfl) (by kernel_rfl) (fun h => nomatch h) (fun _ => ?_)
 refine Ht.exit (id := 0) (by kernel_rfl) ?_
 refine seqH.x (lpH.x (blkH.x ?_))
 refine seqH.n ?_
 refine Ht.seq (by kernel_rfl) ?_
 refine Ht.region hx (by kernel_rfl) ?_
 refine Ops.seg' 1 1 (by kernel_rfl) ?_
 refine Ops.one' 2 (fun h0 e0 => call_ok (E' := (XH 5100).E) (h := h0) (by kernel_rfl) (Args.v (.sl .nil []) (.sl .plain []) (by kernel_rfl) (Args.v (.fn 40) (.fn 40) (by kernel_rfl) Args.nil)) (ora_fn (P := Tryz.prog) (E := EH) (f := 39) (F := Uv.F39) (n := 5099) (r := .tuple []) (xs := [.sl .plain [], .fn 40]) (by kernel_rfl) rfl rfl rfl rfl)) (by kernel_rfl) (by kernel_rfl) ?_
 refine Ops.done (by kernel_rfl) ?_
 refine seqH.n ?_
 refine Ht.seq (by kernel_rfl) ?_
 refine Ht.region hx (by kernel_rfl) ?_
 refine Ops.seg' 4 4 (by kernel_rfl) ?_
 refine Ops.done (by kernel_rfl) ?_
 refine seqH.n ?_
 refine Ht.ret (by kernel_rfl) ?_
 exact ⟨.inr rfl, .v (.tuple [.sl .nil [], e26 ⟨0, 0⟩]), by kernel_rfl, by kernel_rfl⟩
open Classical in
noncomputable def f16L (a : S34) (w : ByteArray) : Option (List S71 × S26) := if a = zA ∧ ∃ l, GoodW w l then some ([], ⟨0, 0⟩) else none
open Classical in
noncomputable def F16 : List V → Option V
 | [a, .str w] => if a = e34 zA ∧ ∃ l, GoodW w l then some (.tuple [.sl .plain [], e26 ⟨0, 0⟩]) else none
 | _ => none
open Classical in
theorem F16_eq {a : S34} {w : ByteArray} {o : List S71 × S26} (h : f16L a w = some o) : F16 [e34 a, eS w] = some (.tuple [(eL e71) o.1, e26 o.2]) := by
 unfold f16L at h
 split at h
 case isFalse => cases h
 rename_i hc
 cases h
 show (if e34 a = e34 zA ∧ ∃ l, GoodW w l then some (V.tuple [.sl .plain [], e26 ⟨0, 0⟩]) else none) = _
 rw [if_pos ⟨by rw [hc.1], hc.2⟩]
 rfl
theorem is16 : Is Tryz.prog 16 := ⟨Tryz.f16, Tryz.func16, by kernel_rfl, by kernel_rfl⟩
theorem ora16 : OraOk False Tryz.prog 16 F16 := by
 refine ⟨is16, fun vs r hF S w us hrel hs hg => ?_⟩
 unfold F16 at hF
 split at hF
 case h_2 => cases hF
 rename_i a wd
 split at hF
 case isFalse => cases hF
 rename_i hc
 obtain ⟨rfl, l, hl⟩ := hc
 cases hF
 have hi := hinv_nil hs hg
 refine (callT_of_ht (c := C16) (Qc := fun d h' => frz h' 15 d = some (.tuple [.sl .plain [], e26 ⟨0, 0⟩])) Tryz.func16 (by kernel_rfl) T_ok (walk16 wd l hl) S [] w us hrel hi).mono ?_
 rintro e w' ⟨d, h', v, S1, β1, hz, rfl, hE1, hI1, hR1⟩
 have hin : ∀ b i, withOwn S1 β1 h' b i → S b i ∨ w.heap.size ≤ b := by
  intro b i hs
  rcases hs with hs | ⟨q, o, c, k, g1, g2, g3⟩
  ·rcases hE1.stay b i hs with g | g | ⟨q, c, k, g⟩
   ·exact .inl g
   ·exact .inr g
   ·simp at g
  ·obtain ⟨k', rfl⟩ := hI1.kpos g1 g2 g3
   rcases hE1.fresh q b c k' g3 with g | ⟨q', c', k'', g⟩
   ·exact .inr g
   ·simp at g
 obtain ⟨b1, b2⟩ := back_from (S' := withOwn S1 β1 h') (h1 := h') hi hE1 (fun _ _ h => h) (fun b i hs => .inl (hE1.keeps b i hs).1) hin (own_sb hI1)
 exact ⟨v, _, rfl, b1, b2, frz_sound hI1 15 _ _ _ hz hR1⟩
end Go.Abs.Rs
