import Derived.Test.YtbeegandhppniaaAbsEv
import Derived.Test.YtbeegandhppniaaZHF
import Derived.Test.YtbeegandhppniaaYL
import Derived.Test.YtbeegandhppniaaZEQ
namespace Go.Abs.Yv
open Go.Sort Go.Proofs
set_option linter.unusedVariables false
set_option linter.unusedSimpArgs false
set_option linter.unnecessarySimpa false
set_option maxRecDepth 100000
def ti62 : TI := ⟨.ptr 66, 1, 8, .nilptr, true, [("Len", some (24, false)), ("Less", some (101, false)), ("Pop", some (102, true)), ("Push", some (103, true)), ("Swap", some (104, false))]⟩
def ti65 : TI := ⟨.slice 64, 1, 24, .sl .nil [], true, []⟩
def TW (t : Nat) : Option TI := if t = 62 then some ti62 else if t = 65 then some ti65 else T t
theorem TW_ok : ∀ t i, TW t = some i → tiOf Proofs.Try.prog t = some i := by
 intro t i h
 unfold TW at h
 split at h
 ·rename_i e; subst e; cases h; kernel_rfl
 split at h
 ·rename_i e; subst e; cases h; kernel_rfl
 exact T_ok t i h
def useL : List Nat := [11, 23, 24, 25, 26, 44, 45, 101, 102, 103, 104]
def useW (f : Nat) : Bool := useL.contains f
theorem useW_is : ∀ f, useW f = true → Is Proofs.Try.prog f := by
 intro f h
 have h : f ∈ useL := by simpa [useW] using h
 simp only [useL, List.mem_cons, List.not_mem_nil, or_false] at h
 rcases h with rfl | rfl | rfl | rfl | rfl | rfl | rfl | rfl | rfl | rfl | rfl
 ·exact ⟨Proofs.Try.f11, Proofs.Try.func11, by kernel_rfl, by kernel_rfl⟩
 ·exact ⟨Proofs.Try.f23, Proofs.Try.func23, by kernel_rfl, by kernel_rfl⟩
 ·exact ⟨Proofs.Try.f24, Proofs.Try.func24, by kernel_rfl, by kernel_rfl⟩
 ·exact ⟨Proofs.Try.f25, Proofs.Try.func25, by kernel_rfl, by kernel_rfl⟩
 ·exact ⟨Proofs.Try.f26, Proofs.Try.func26, by kernel_rfl, by kernel_rfl⟩
 ·exact ⟨Proofs.Try.f44, Proofs.Try.func44, by kernel_rfl, by kernel_rfl⟩
 ·exact ⟨Proofs.Try.f45, Proofs.Try.func45, by kernel_rfl, by kernel_rfl⟩
 ·exact ⟨Proofs.Try.f101, Proofs.Try.func101, by kernel_rfl, by kernel_rfl⟩
 ·exact ⟨Proofs.Try.f102, Proofs.Try.func102, by kernel_rfl, by kernel_rfl⟩
 ·exact ⟨Proofs.Try.f103, Proofs.Try.func103, by kernel_rfl, by kernel_rfl⟩
 ·exact ⟨Proofs.Try.f104, Proofs.Try.func104, by kernel_rfl, by kernel_rfl⟩
def EW (f : Nat) : Env := { E with T := TW, dynP := true, rowM := f == 102 || f == 103, bldTy := fun t => (f == 11 || f == 102) && t == 66, pureF := fun g => g == 23 || (!useW g && E.pureF g) }
def M97 : S28 := ⟨2, [⟨0, 1, 97, 0, 0⟩, ⟨0, 0, 98, 98, 0⟩, ⟨1, 1, 97, 0, 0⟩, ⟨1, 0, 98, 98, 0⟩], [⟨0, 0⟩, ⟨1, 0⟩]⟩
def xs97 : List V := [e28 M97, eL eI [97, 98], eL eI [98]]
def r97 : V := .tuple [eI 0, eB true, e30 ⟨0, 0⟩]
theorem run97 : (run2 Proofs.Try.prog EW E useW 60 11 (xs97.map .v) []).bind (fun p => frz p.2 15 p.1) = some r97 := by kernel_rfl
open Classical in
noncomputable def F11 (vs : List V) : Option V := if vs = xs97 then some r97 else none
theorem ora11 : OraOk False Proofs.Try.prog 11 F11 := by
 refine ⟨useW_is 11 (by decide), fun vs r hF S w us hrel hs hg => ?_⟩
 unfold F11 at hF
 split at hF
 case isFalse => cases hF
 rename_i e
 subst e
 cases hF
 obtain ⟨⟨d, h'⟩, h1, h2⟩ := Option.bind_eq_some_iff.1 run97
 have hc := (run2_sound (DR := False) (E := EW) good (fun _ => TW_ok) useW_is 60 11 _ _ _ _ h1).2
 have hi := hinv_nil hs hg
 refine (hc S [] w us hrel hi).mono ?_
 rintro e w' ⟨v, S1, β1, rfl, hE1, hI1, hR1⟩
 have hin : ∀ b i, withOwn S1 β1 h' b i → S b i ∨ w.heap.size ≤ b := by
  intro b i hs
  rcases hs with hs | ⟨q, o, c, k, g1, g2, g3⟩
  ·rcases hE1.stay b i hs with g | g | ⟨q, c, k, g⟩
   ·exact .inl g
   ·exact .inr g
   ·simp at g
  ·obtain ⟨k', rfl⟩ := hI1.kpos g1 g2 g3
   rcases hE1.fresh q b c k' g3 with g | ⟨q', c', k'', g⟩
   ·exact .inr g
   ·simp at g
 obtain ⟨b1, b2⟩ := back_from (S' := withOwn S1 β1 h') (h1 := h') hi hE1 (fun _ _ h => h) (fun b i hs => .inl (hE1.keeps b i hs).1) hin (own_sb hI1)
 exact ⟨v, _, rfl, b1, b2, frz_sound hI1 15 _ _ _ h2 hR1⟩
end Go.Abs.Yv
namespace Go.Abs
open Go.Sort Go.Proofs
set_option linter.unusedVariables false
set_option maxRecDepth 100000
set_option maxHeartbeats 2000000
def decI : V → Option Int
 | .int .i64 a => some a
 | _ => none
theorem decI_spec {v : V} {a : Int} (h : decI v = some a) : v = eI a := by
 unfold decI at h
 split at h
 ·cases h; rfl
 ·cases h
theorem decI_e (a : Int) : decI (eI a) = some a := rfl
def decF2 : V → Option S58
 | .agg [.int .i64 a, .int .i64 b] => some ⟨a, b⟩
 | _ => none
theorem decF2_spec {v : V} {a : S58} (h : decF2 v = some a) : v = e58 a := by
 unfold decF2 at h
 split at h
 ·cases h; rfl
 ·cases h
theorem decF2_e (a : S58) : decF2 (e58 a) = some a := rfl
theorem allM_self {α : Type} {f : V → Option α} {g : α → V} (h : ∀ a, f (g a) = some a) : ∀ l : List α, allM f (l.map g) = some l
 | [] => rfl
 | a :: l => by
  show (match f (g a), allM f (l.map g) with
   | some y, some ys => some (y :: ys)
   | _, _ => none) = _
  rw [h a, allM_self h l]
def MC : Nat := 5000
def F5 : List V → Option V
 | [.agg [.sl .plain a, .sl .plain b, .sl .plain c, .sl .plain d], .sl .plain al] => match allM decI a, allM decI b, allM decI c, allM decI d, allM decI al with
  | some a, some b, some c, some d, some al => (Yk.f5 MC ⟨a, b, c, d⟩ al).map fun (o : S28 × S30) => V.tuple [e28 o.1, e30 o.2]
  | _, _, _, _, _ => none
 | _ => none
theorem F5_eq (R : S23) (al : List Int) : F5 [e23 R, eL eI al] = (Yk.f5 MC R al).map fun (o : S28 × S30) => V.tuple [e28 o.1, e30 o.2] := by
 show (match allM decI (R.fFrom.map eI), allM decI (R.fTo.map eI), allM decI (R.fLeft.map eI), allM decI (R.fRight.map eI), allM decI (al.map eI) with
  | some a, some b, some c, some d, some al => (Yk.f5 MC ⟨a, b, c, d⟩ al).map fun (o : S28 × S30) => V.tuple [e28 o.1, e30 o.2]
  | _, _, _, _, _ => none) = _
 simp only [allM_self decI_e]
theorem is5 : Is Proofs.Try.prog 5 := ⟨Proofs.Try.f5, Proofs.Try.func5, by kernel_rfl, by kernel_rfl⟩
theorem ora5 : OraOk False Proofs.Try.prog 5 F5 := by
 refine ⟨is5, fun vs r hF S w us hrel hs hg => ?_⟩
 unfold F5 at hF
 split at hF
 case h_2 => cases hF
 rename_i a b c d al
 split at hF
 case h_2 => cases hF
 rename_i a' b' c' d' al' h1 h2 h3 h4 h5
 have e1 := allM_dec (fun _ _ h => decI_spec h) h1
 have e2 := allM_dec (fun _ _ h => decI_spec h) h2
 have e3 := allM_dec (fun _ _ h => decI_spec h) h3
 have e4 := allM_dec (fun _ _ h => decI_spec h) h4
 have e5 := allM_dec (fun _ _ h => decI_spec h) h5
 subst e1 e2 e3 e4 e5
 obtain ⟨o, ho, rfl⟩ := Option.map_eq_some_iff.1 hF
 exact En.calls_of_ht (c := Yk.C5) (T := Ya.TM) (N := 15) (xs := [e23 ⟨a', b', c', d'⟩, eL eI al']) (r := .tuple [e28 o.1, e30 o.2]) Proofs.Try.func5 (by kernel_rfl) Ya.TM_ok (Yl.comp5 (MC + 3) MC (Nat.le_refl _) ⟨a', b', c', d'⟩ al' o ho) hrel hs hg
open Classical in
noncomputable def f8L (m : S28) (w : List Int) : Option Bool := if Rd.OkA m m.fStates.toNat ∧ w.length ≤ maxLen then some (Rd.accB m m.fStates.toNat w) else none
noncomputable def F8 : List V → Option V
 | [.agg [.int .i64 st, .sl .plain rs, .sl .plain fs], .sl .plain ws] => match allM decA rs, allM decF2 fs, allM decI ws with
  | some rs, some fs, some w => (f8L ⟨st, rs, fs⟩ w).map vB
  | _, _, _ => none
 | _ => none
theorem F8_eq (m : S28) (w : List Int) : F8 [e28 m, eL eI w] = (f8L m w).map vB := by
 show (match allM decA (m.fArcs.map e53), allM decF2 (m.fFinals.map e58), allM decI (w.map eI) with
  | some rs, some fs, some w => (f8L ⟨m.fStates, rs, fs⟩ w).map vB
  | _, _, _ => none) = _
 rw [allM_self decA_e, allM_self decF2_e, allM_self decI_e]
theorem is8 : Is Proofs.Try.prog 8 := ⟨Proofs.Try.f8, Proofs.Try.func8, by kernel_rfl, by kernel_rfl⟩
theorem ora8 : OraOk False Proofs.Try.prog 8 F8 := by
 refine ⟨is8, fun vs r hF S w us hrel hs hg => ?_⟩
 unfold F8 at hF
 split at hF
 case h_2 => cases hF
 rename_i st rs fs ws
 split at hF
 case h_2 => cases hF
 rename_i rs' fs' w' h1 h2 h3
 have e1 := allM_dec (fun _ _ h => decA_spec h) h1
 have e2 := allM_dec (fun _ _ h => decF2_spec h) h2
 have e3 := allM_dec (fun _ _ h => decI_spec h) h3
 subst e1 e2 e3
 obtain ⟨b, ho, rfl⟩ := Option.map_eq_some_iff.1 hF
 unfold f8L at ho
 split at ho
 case isFalse => cases ho
 rename_i hok
 cases ho
 exact En.calls_of_ht (c := Rd.C8) (T := T) (N := 15) (xs := [e28 ⟨st, rs', fs'⟩, eL eI w']) (r := vB (Rd.accB ⟨st, rs', fs'⟩ st.toNat w')) Proofs.Try.func8 (by kernel_rfl) T_ok (Rd.accepts9 0 ⟨st, rs', fs'⟩ st.toNat hok.1 w' hok.2) hrel hs hg
theorem Fn_det {P : Program} {E : Env} {n f : Nat} {xs : List D} {r r' : V} (h : Fn P E n f xs r) (g : Fn P E n f xs r') : r = r' := by
 obtain ⟨d, h1, a1, a2⟩ := h
 obtain ⟨d', h2, b1, b2⟩ := g
 rw [a1] at b1
 cases b1
 rw [a2] at b2
 exact Option.some.inj b2
open Classical in
noncomputable def oraEv (P : Program) (E : Env) (f : Nat) : List V → Option V := fun xs => if h : ∃ r, ∃ n0 : Nat, ∀ n, n0 ≤ n → Fn P E n f (xs.map .v) r then some (Classical.choose h) else none
theorem oraEv_eq {P : Program} {E : Env} {f : Nat} {xs : List V} {r : V} {n0 : Nat} (h : ∀ n, n0 ≤ n → Fn P E n f (xs.map .v) r) : oraEv P E f xs = some r := by
 have hx : ∃ r, ∃ n0 : Nat, ∀ n, n0 ≤ n → Fn P E n f (xs.map .v) r := ⟨r, n0, h⟩
 unfold oraEv
 rw [dif_pos hx]
 obtain ⟨n1, h1⟩ := Classical.choose_spec hx
 rw [Fn_det (h1 (max n0 n1) (Nat.le_max_right ..)) (h (max n0 n1) (Nat.le_max_left ..))]
theorem oraEv_ok {DR : Prop} {P : Program} {E : Env} (hG : Good DR P E) {f : Nat} (hIs : Is P f) : OraOk DR P f (oraEv P E f) := by
 refine ⟨hIs, fun vs r hF S w us hrel hs hg => ?_⟩
 unfold oraEv at hF
 split at hF
 case isFalse => cases hF
 rename_i hx
 cases hF
 obtain ⟨n1, h1⟩ := Classical.choose_spec hx
 obtain ⟨d, h', a1, a2⟩ := h1 n1 (Nat.le_refl _)
 exact (pureCalls hG a1 a2).2 S w us hrel hs hg
theorem is6 : Is Proofs.Try.prog 6 := ⟨Proofs.Try.f6, Proofs.Try.func6, by kernel_rfl, by kernel_rfl⟩
theorem is9 : Is Proofs.Try.prog 9 := ⟨Proofs.Try.f9, Proofs.Try.func9, by kernel_rfl, by kernel_rfl⟩
theorem is10 : Is Proofs.Try.prog 10 := ⟨Proofs.Try.f10, Proofs.Try.func10, by kernel_rfl, by kernel_rfl⟩
noncomputable def oraG (f : Nat) : Option (List V → Option V) := match f with
 | 5 => some F5
 | 6 => some (oraEv Proofs.Try.prog E 6)
 | 8 => some F8
 | 9 => some (oraEv Proofs.Try.prog E 9)
 | 10 => some (oraEv Proofs.Try.prog E 10)
 | 11 => some Yv.F11
 | 18 => some Rd.F18
 | f => oraT f
noncomputable def EG : Env := { E with ora := oraG }
theorem oraG_ok : OSound False Proofs.Try.prog EG := by
 intro f F h
 have h : oraG f = some F := h
 unfold oraG at h
 split at h
 ·cases h; exact ora5
 ·cases h; exact oraEv_ok good is6
 ·cases h; exact ora8
 ·cases h; exact oraEv_ok good is9
 ·cases h; exact oraEv_ok good is10
 ·cases h; exact Yv.ora11
 ·cases h; exact Rd.ora18
 ·exact ora_ok f F h
theorem goodG : Good False Proofs.Try.prog EG := ⟨good.mixed, T_ok, names_ok, oraG_ok, oraD_ok⟩
theorem ok6g (m : Nat) (a0 : (List Int)) (a1 : Int) (o : S30) (h : f6 m a0 a1 = some o) (n : Nat) (hn : m + 2 ≤ n) : Fn Proofs.Try.prog EG n 6 [.v ((eL eI) a0), .v (eI a1)] (e30 o) := by
 obtain ⟨n, rfl⟩ : ∃ q, n = q + 1 := ⟨n - 1, by omega⟩
 exact ora_fn (F := oraEv Proofs.Try.prog E 6) (xs := [eL eI a0, eI a1]) (by kernel_rfl) rfl rfl (oraEv_eq fun k hk => ok6 m a0 a1 o h k hk) rfl
theorem ok9g (m : Nat) (a0 : (List Int)) (a1 : (List Int)) (o : Bool) (h : f9 m a0 a1 = some o) (n : Nat) (hn : m + 1 ≤ n) : Fn Proofs.Try.prog EG n 9 [.v ((eL eI) a0), .v ((eL eI) a1)] (eB o) := by
 obtain ⟨n, rfl⟩ : ∃ q, n = q + 1 := ⟨n - 1, by omega⟩
 exact ora_fn (F := oraEv Proofs.Try.prog E 9) (xs := [eL eI a0, eL eI a1]) (by kernel_rfl) rfl rfl (oraEv_eq fun k hk => ok9 m a0 a1 o h k hk) rfl
theorem ok10g (m : Nat) (a0 : S28) (o : S30) (h : f10 m a0 = some o) (n : Nat) (hn : m + 2 ≤ n) : Fn Proofs.Try.prog EG n 10 [.v (e28 a0)] (e30 o) := by
 obtain ⟨n, rfl⟩ : ∃ q, n = q + 1 := ⟨n - 1, by omega⟩
 exact ora_fn (F := oraEv Proofs.Try.prog E 10) (xs := [e28 a0]) (by kernel_rfl) rfl rfl (oraEv_eq fun k hk => ok10 m a0 o h k hk) rfl
def f5 (m : Nat) (a0 : S23) (a1 : List Int) : Option (S28 × S30) := Yk.f5 MC a0 a1
theorem ok5 (m : Nat) (a0 : S23) (a1 : List Int) (o : S28 × S30) (h : f5 m a0 a1 = some o) (n : Nat) (hn : m + 1 ≤ n) : Fn Proofs.Try.prog EG n 5 [.v (e23 a0), .v ((eL eI) a1)] (.tuple [e28 o.1, e30 o.2]) := by
 obtain ⟨n, rfl⟩ : ∃ q, n = q + 1 := ⟨n - 1, by omega⟩
 refine ora_fn (F := F5) (xs := [e23 a0, eL eI a1]) (by kernel_rfl) rfl rfl ?_ rfl
 have h : Yk.f5 MC a0 a1 = some o := h
 rw [F5_eq, h]
 rfl
noncomputable def f8 (m : Nat) (a0 : S28) (a1 : List Int) : Option Bool := f8L a0 a1
theorem ok8 (m : Nat) (a0 : S28) (a1 : List Int) (o : Bool) (h : f8 m a0 a1 = some o) (n : Nat) (hn : m + 1 ≤ n) : Fn Proofs.Try.prog EG n 8 [.v (e28 a0), .v ((eL eI) a1)] (eB o) := by
 obtain ⟨n, rfl⟩ : ∃ q, n = q + 1 := ⟨n - 1, by omega⟩
 refine ora_fn (F := F8) (xs := [e28 a0, eL eI a1]) (by kernel_rfl) rfl rfl ?_ rfl
 have h : f8L a0 a1 = some o := h
 rw [F8_eq, h]
 rfl
open Classical in
noncomputable def f11 (m : Nat) (a0 : S28) (a1 : List Int) (a2 : List Int) : Option (Int × Bool × S30) := if a0 = Yv.M97 ∧ a1 = [97, 98] ∧ a2 = [98] then some (0, true, ⟨0, 0⟩) else none
theorem ok11 (m : Nat) (a0 : S28) (a1 : List Int) (a2 : List Int) (o : Int × Bool × S30) (h : f11 m a0 a1 a2 = some o) (n : Nat) (hn : m + 1 ≤ n) : Fn Proofs.Try.prog EG n 11 [.v (e28 a0), .v ((eL eI) a1), .v ((eL eI) a2)] (.tuple [eI o.1, eB o.2.1, e30 o.2.2]) := by
 obtain ⟨n, rfl⟩ : ∃ q, n = q + 1 := ⟨n - 1, by omega⟩
 unfold f11 at h
 split at h
 case isFalse => cases h
 rename_i hc
 obtain ⟨rfl, rfl, rfl⟩ := hc
 cases h
 refine ora_fn (F := Yv.F11) (xs := Yv.xs97) (by kernel_rfl) rfl rfl ?_ rfl
 unfold Yv.F11
 rw [if_pos rfl]
 rfl
noncomputable def f7 (m : Nat) (a0 : S28) : Option (S28 × S30) := Rd.f22F a0
theorem ok18 (a0 : S28) (o : S28 × S30) (h : Rd.f22F a0 = some o) (n : Nat) : Fn Proofs.Try.prog EG (n + 1) 18 [.v (e28 a0), .v (.fn 19)] (.tuple [e28 o.1, e30 o.2]) := by
 refine ora_fn (F := Rd.F18) (xs := [e28 a0, .fn 19]) (by kernel_rfl) rfl rfl ?_ rfl
 rw [Rd.F18_eq, h]
 rfl
noncomputable abbrev X7 (n : Nat) : Cx := cxOf Proofs.Try.prog EG 7 n
theorem ok7 (m : Nat) (a0 : S28) (o : S28 × S30) (h : f7 m a0 = some o) (n : Nat) (hn : m + 2 ≤ n) : Fn Proofs.Try.prog EG n 7 [.v (e28 a0)] (.tuple [e28 o.1, e30 o.2]) := by
 obtain ⟨n, rfl⟩ : ∃ q, n = q + 2 := ⟨n - 2, by omega⟩
 have h : Rd.f22F a0 = some o := h
 refine Fn.of (by kernel_rfl) (by kernel_rfl) (by kernel_rfl) ⟨(.v (e28 a0)) :: u7 [], []⟩ (by kernel_rfl) ?_
 refine Wp.sq ?_
 refine Wp.rg ?_
 refine Ops.sg 3 3 ?_
 refine Ops.dn ?_
 refine seqQ.n ?_
 refine Wp.sq ?_
 refine Wp.rg ?_
 refine Ops.sg 1 1 ?_
 refine Ops.on 2 (fun h0 e0 => (call_ok (E' := EG) (h := h0) (by kernel_rfl) (Args.v (.agg [(vI a0.fStates), (vP e53 a0.fArcs), (vP e58 a0.fFinals)]) (e28 a0) (by kernel_rfl) (Args.v (.fn 19) (.fn 19) (by kernel_rfl) Args.nil)) (ok18 a0 o h n))) ?_
 refine Ops.sg 4 6 ?_
 refine Ops.dn ?_
 refine seqQ.n ?_
 refine Wp.ret (by kernel_rfl) ?_
 exact fnQ.r' (X7 (n + 1)) (fun (z : S28 × S30) => (.tuple [e28 z.1, e30 z.2])) (a := o) (o := o) rfl (RetOk.mk' (.v (.tuple [(e28 o.1), (e30 o.2)])) (by kernel_rfl) (by kernel_rfl))
end Go.Abs
