import Derived.Test.YtgbhimkbfaebeaaGreatDoorXL
import Derived.Test.YtgbhimkbfaebeaaGreatDoorXQ
namespace Go.Abs
open Go.Sort Go.Proofs
set_option linter.unusedVariables false
set_option linter.unusedSimpArgs false
set_option linter.unnecessarySimpa false
set_option maxRecDepth 100000
set_option maxHeartbeats 4000000
namespace Xp
theorem parse14 (n m : Nat) (hn : m + 6 ≤ n) (s : ByteArray) (o : S23 × S26) (h : f14 m s = some o) :
  Ht False Tryz.prog (bodyOf Tryz.prog 14) (startIn Tryz.prog 14 [.v (.str s)] []) (fun e σ => (e = .normal ∨ e = .ret) ∧ ∃ d, resultsD T σ (resOf Tryz.prog 14) = some d ∧ frz σ.heap 15 d = some (.tuple [e23 o.1, e26 o.2])) := by
 have hxn := hxT n
 unfold f14 at h
 show Ht False Tryz.prog C14 _ _
 refine Ht.sq (Ht.rg hxn (Ops.sg 2 2 (Ops.dn (seqH.n (Ht.sq (Ht.sq (Ht.rg hxn (Ops.sg 3 3 (Ops.dn (seqH.n ?_))))))))))
 refine Ht.cond (decide ((s.size : Int) > 4000)) (by kernel_rfl) (by kernel_rfl) (fun hc => ?_) (fun hc => ?_)
 ·have hc := of_decide_eq_true hc
  rw [if_pos hc] at h
  cases h
  refine Ht.sq (Ht.rg hxn (Ops.sg 1 1 ?_))
  refine Ops.on 2 (fun h0 e0 => call_ok (E' := E) (h := h0) (by kernel_rfl) (Args.v (vI 1) (eI 1) (by kernel_rfl) (Args.v (vI (-1)) (eI (-1)) (by kernel_rfl) Args.nil)) (ok25 m 1 (-1) ⟨1, -1⟩ rfl n (by omega))) ?_
  refine Ops.sg 2 4 (Ops.dn (seqH.n (Ht.rt ?_)))
  exact ⟨.inr rfl, finR (a := 1) (b := -1) (by kernel_rfl) (by kernel_rfl) (by kernel_rfl) (by kernel_rfl)⟩
 ·have hc := of_decide_eq_false hc
  rw [if_neg hc] at h
  obtain ⟨lines, hlines⟩ : ∃ l, f28 m s (⟨#[10]⟩ : ByteArray) = some l := by
   cases hz : f28 m s (⟨#[10]⟩ : ByteArray) with
   | none => rw [hz] at h; cases h
   | some l => exact ⟨l, rfl⟩
  rw [hlines] at h
  have h : (if lines.length ≤ 1000000 then match parseL m 0 [] lines with
   | none => none
   | some (.inl f) => some ((⟨[]⟩ : S23), f)
   | some (.inr cl) => match f11 m ⟨cl⟩ with
    | none => none
    | some f => if f.fCode = 0 ∧ f.fIndex = 0 then some ((⟨cl⟩ : S23), (⟨0, 0⟩ : S26)) else some ((⟨[]⟩ : S23), f)
   else none) = some o := h
  split at h
  case isFalse => cases h
  rename_i hl
  obtain ⟨goal, hg⟩ : ∃ g, parseL m 0 [] lines = some g := by
   cases hz : parseL m 0 [] lines with
   | none => rw [hz] at h; cases h
   | some g => exact ⟨g, rfl⟩
  rw [hg] at h
  refine Ht.sk (seqH.n (Ht.sq (Ht.rg hxn (Ops.sg 1 1 ?_))))
  refine Ops.on 2 (fun h0 e0 => call_ok (E' := E) (h := h0) (by kernel_rfl) (Args.v (.str s) (eS s) (by kernel_rfl) (Args.v (.str (⟨#[10]⟩ : ByteArray)) (eS (⟨#[10]⟩ : ByteArray)) (by kernel_rfl) Args.nil)) (ok28 m s (⟨#[10]⟩ : ByteArray) lines hlines n (by omega))) ?_
  refine Ops.sg 1 3 (Ops.dn (seqH.n (Ht.sq (Ht.rg hxn (Ops.sg 1 1 (Ops.dn (seqH.n (Ht.sq (Ht.sq (Ht.rg hxn (Ops.sg 3 3 (Ops.dn (seqH.n ?_)))))))))))))
  have hlm : (lines.map eS).length = lines.length := List.length_map _
  refine Ht.bk 0 ?_
  refine Ht.forget KS (Ht.st (σ' := Sm 105 [(2, .ptr 0 0), (3, .ptr 1 0), (4, .v (vP eS lines)), (5, .ptr 2 0), (22, .v (vP eS lines)), (23, dI ((lines.map eS).length : Int)), (24, dI 0)] [cN, c00, cN]) (by kernel_rfl) ?_)
  rw [hlm]
  refine loop14 n m hn hl (goal := goal) (fun f hf σ hσ => ?_) (fun cl cd G σ hcl hI hσ => ?_) ⟨rfl, rfl, rfl, .nil⟩ hg
  ·subst hf
   have h : some ((⟨[]⟩ : S23), f) = some o := h
   cases h
   exact ⟨.inr rfl, hσ⟩
  ·subst hcl
   have h : (match f11 m ⟨cl⟩ with
    | none => none
    | some f => if f.fCode = 0 ∧ f.fIndex = 0 then some ((⟨cl⟩ : S23), (⟨0, 0⟩ : S26)) else some ((⟨[]⟩ : S23), f)) = some o := h
   obtain ⟨f, hf⟩ : ∃ f, f11 m ⟨cl⟩ = some f := by
    cases hz : f11 m ⟨cl⟩ with
    | none => rw [hz] at h; cases h
    | some f => exact ⟨f, rfl⟩
   rw [hf] at h
   have h : (if f.fCode = 0 ∧ f.fIndex = 0 then some ((⟨cl⟩ : S23), (⟨0, 0⟩ : S26)) else some ((⟨[]⟩ : S23), f)) = some o := h
   refine blkH.x (seqH.n ?_)
   refine Ht.forget [2, 3, 5] (Ht.st hσ ?_)
   refine tail14 n m hn hI f hf (fun hz σ hσ => ?_) (fun hz σ hσ => ?_)
   ·rw [if_pos hz] at h
    cases h
    exact ⟨.inr rfl, hσ⟩
   ·rw [if_neg hz] at h
    cases h
    exact ⟨.inr rfl, hσ⟩
end Xp
theorem calls_of_ht {DR : Prop} {P : Program} {f : Nat} {fn : Func} {c : Code} {T : Nat → Option TI} (hfn : P.funcs[f]? = some fn) (hc : fn.body = some c) (hT : ∀ t i, T t = some i → tiOf P t = some i) {xs : List V} {r : V} {N : Nat}
  (ht : Ht DR P (bodyOf P f) (startIn P f (xs.map .v) []) (fun e σ => (e = .normal ∨ e = .ret) ∧ ∃ d, resultsD T σ (resOf P f) = some d ∧ frz σ.heap N d = some r)) {S : Nat → Nat → Prop} {w : World} {us : Array Value} (hrel : RelL S [] w us (xs.map .v)) (hS : ∀ b i, S b i → b < w.heap.size) (hG : Glob S w) :
  Calls P f us w fun e w' => ∃ v S', e = .returned v ∧ Ext DR S [] w S' [] w' ∧ HInv S' [] w' [] ∧ RelV S' w' v r := by
 have hi := hinv_nil hS hG
 refine (callT_of_ht (Qc := fun d h' => frz h' N d = some r) hfn hc hT ht S [] w us hrel hi).mono ?_
 rintro e w' ⟨d, h', v, S1, β1, hz, rfl, hE1, hI1, hR1⟩
 have hin : ∀ b i, withOwn S1 β1 h' b i → S b i ∨ w.heap.size ≤ b := by
  intro b i hs
  rcases hs with hs | ⟨q, o, c, k, g1, g2, g3⟩
  ·rcases hE1.stay b i hs with g | g | ⟨q, c, k, g⟩
   ·exact .inl g
   ·exact .inr g
   ·simp at g
  ·obtain ⟨k', rfl⟩ := hI1.kpos g1 g2 g3
   rcases hE1.fresh q b c k' g3 with g | ⟨q', c', k'', g⟩
   ·exact .inr g
   ·simp at g
 obtain ⟨b1, b2⟩ := back_from (S' := withOwn S1 β1 h') (h1 := h') hi hE1 (fun _ _ h => h) (fun b i hs => .inl (hE1.keeps b i hs).1) hin (own_sb hI1)
 exact ⟨v, _, rfl, b1, b2, frz_sound hI1 N _ _ _ hz hR1⟩
theorem Fn_det {P : Program} {E : Env} {n f : Nat} {xs : List D} {r r' : V} (h : Fn P E n f xs r) (g : Fn P E n f xs r') : r = r' := by
 obtain ⟨d, h1, a1, a2⟩ := h
 obtain ⟨d', h2, b1, b2⟩ := g
 rw [a1] at b1
 cases b1
 rw [a2] at b2
 exact Option.some.inj b2
open Classical in
noncomputable def oraEv (P : Program) (E : Env) (f : Nat) : List V → Option V := fun xs => if h : ∃ r, ∃ n0 : Nat, ∀ n, n0 ≤ n → Fn P E n f (xs.map .v) r then some (Classical.choose h) else none
theorem oraEv_eq {P : Program} {E : Env} {f : Nat} {xs : List V} {r : V} {n0 : Nat} (h : ∀ n, n0 ≤ n → Fn P E n f (xs.map .v) r) : oraEv P E f xs = some r := by
 have hx : ∃ r, ∃ n0 : Nat, ∀ n, n0 ≤ n → Fn P E n f (xs.map .v) r := ⟨r, n0, h⟩
 unfold oraEv
 rw [dif_pos hx]
 obtain ⟨n1, h1⟩ := Classical.choose_spec hx
 rw [Fn_det (h1 (max n0 n1) (Nat.le_max_right ..)) (h (max n0 n1) (Nat.le_max_left ..))]
theorem oraEv_ok {DR : Prop} {P : Program} {E : Env} (hG : Good DR P E) {f : Nat} (hIs : Is P f) : OraOk DR P f (oraEv P E f) := by
 refine ⟨hIs, fun vs r hF S w us hrel hs hg => ?_⟩
 unfold oraEv at hF
 split at hF
 case isFalse => cases hF
 rename_i hx
 cases hF
 obtain ⟨n1, h1⟩ := Classical.choose_spec hx
 obtain ⟨d, h', a1, a2⟩ := h1 n1 (Nat.le_refl _)
 exact (pureCalls hG a1 a2).2 S w us hrel hs hg
def MM : Nat := 1000000
theorem is14 : Is Tryz.prog 14 := ⟨Tryz.f14, Tryz.func14, by kernel_rfl, by kernel_rfl⟩
theorem is11 : Is Tryz.prog 11 := ⟨Tryz.f11, Tryz.func11, by kernel_rfl, by kernel_rfl⟩
theorem is25 : Is Tryz.prog 25 := ⟨Tryz.f25, Tryz.func25, by kernel_rfl, by kernel_rfl⟩
noncomputable def F14 : List V → Option V
 | [.str s] => (Xp.f14 MM s).map fun o => .tuple [e23 o.1, e26 o.2]
 | _ => none
theorem ora14 : OraOk False Tryz.prog 14 F14 := by
 refine ⟨is14, fun vs r hF S w us hrel hs hg => ?_⟩
 unfold F14 at hF
 split at hF
 case h_2 => cases hF
 rename_i s
 obtain ⟨o, ho, rfl⟩ := Option.map_eq_some_iff.1 hF
 exact calls_of_ht (c := Xp.C14) (T := T) (N := 15) (xs := [.str s]) (r := .tuple [e23 o.1, e26 o.2]) Tryz.func14 (by kernel_rfl) T_ok (Xp.parse14 (MM + 6) MM (Nat.le_refl _) s o ho) hrel hs hg
theorem is15 : Is Tryz.prog 15 := ⟨Tryz.f15, Tryz.func15, by kernel_rfl, by kernel_rfl⟩
theorem is7 : Is Tryz.prog 7 := ⟨Tryz.f7, Tryz.func7, by kernel_rfl, by kernel_rfl⟩
theorem is18 : Is Tryz.prog 18 := ⟨Tryz.f18, Tryz.func18, by kernel_rfl, by kernel_rfl⟩
noncomputable def F15 : List V → Option V
 | [.str s] => (Xq.f15 MM s).map fun o => .tuple [e23 o.1, e26 o.2]
 | _ => none
theorem ora15 : OraOk False Tryz.prog 15 F15 := by
 refine ⟨is15, fun vs r hF S w us hrel hs hg => ?_⟩
 unfold F15 at hF
 split at hF
 case h_2 => cases hF
 rename_i s
 obtain ⟨o, ho, rfl⟩ := Option.map_eq_some_iff.1 hF
 exact calls_of_ht (c := Xq.C15) (T := T) (N := 15) (xs := [.str s]) (r := .tuple [e23 o.1, e26 o.2]) Tryz.func15 (by kernel_rfl) T_ok (Xq.lof15 (MM + 6) MM (Nat.le_refl _) s o ho) hrel hs hg
theorem map_inj {α : Type} {f : α → V} (hf : ∀ x y, f x = f y → x = y) : ∀ {l l' : List α}, l.map f = l'.map f → l = l'
 | [], [], _ => rfl
 | [], _ :: _, h => by cases h
 | _ :: _, [], h => by cases h
 | x :: l, y :: l', h => by
  rw [List.map_cons, List.map_cons, List.cons.injEq] at h
  rw [hf x y h.1, map_inj hf h.2]
theorem e46_inj (x y : S46) (h : e46 x = e46 y) : x = y := by
 unfold e46 at h
 simp only [V.agg.injEq, List.cons.injEq, V.str.injEq, V.sl.injEq, V.int.injEq, true_and, and_true] at h
 obtain ⟨h1, h2, h3, h4, h5⟩ := h
 cases x; cases y
 simp only at h1 h2 h3 h4 h5
 rw [h1, h2, h4, h5, map_inj (f := eS) (fun a b h => V.str.inj h) h3]
theorem e44_inj (x y : S44) (h : e44 x = e44 y) : x = y := by
 unfold e44 at h
 simp only [V.agg.injEq, List.cons.injEq, V.str.injEq, V.sl.injEq, true_and, and_true] at h
 obtain ⟨h1, h2⟩ := h
 cases x; cases y
 simp only at h1 h2
 rw [h1, map_inj e46_inj h2]
theorem e23_inj (x y : S23) (h : e23 x = e23 y) : x = y := by
 unfold e23 at h
 simp only [V.agg.injEq, List.cons.injEq, V.sl.injEq, true_and, and_true] at h
 cases x; cases y
 simp only at h
 rw [map_inj e44_inj h]
theorem is16 : Is Tryz.prog 16 := ⟨Tryz.f16, Tryz.func16, by kernel_rfl, by kernel_rfl⟩
theorem is12 : Is Tryz.prog 12 := ⟨Tryz.f12, Tryz.func12, by kernel_rfl, by kernel_rfl⟩
open Classical in
noncomputable def F16 : List V → Option V := fun xs => if h : ∃ p : S23 × S23 × Bool, xs = [e23 p.1, e23 p.2.1] ∧ Xl.f16 MM p.1 p.2.1 = some p.2.2 then some (.bool (Classical.choose h).2.2) else none
theorem F16_eq {a b : S23} {o : Bool} (h : Xl.f16 MM a b = some o) : F16 [e23 a, e23 b] = some (.bool o) := by
 have hx : ∃ p : S23 × S23 × Bool, [e23 a, e23 b] = [e23 p.1, e23 p.2.1] ∧ Xl.f16 MM p.1 p.2.1 = some p.2.2 := ⟨(a, b, o), rfl, h⟩
 unfold F16
 rw [dif_pos hx]
 have hs := Classical.choose_spec hx
 generalize Classical.choose hx = p at hs
 obtain ⟨h1, h2⟩ := hs
 simp only [List.cons.injEq, and_true] at h1
 rw [← e23_inj _ _ h1.1, ← e23_inj _ _ h1.2, h] at h2
 rw [Option.some.inj h2]
theorem ora16 : OraOk False Tryz.prog 16 F16 := by
 refine ⟨is16, fun vs r hF S w us hrel hs hg => ?_⟩
 unfold F16 at hF
 split at hF
 case isFalse => cases hF
 rename_i hx
 cases hF
 have hsp := Classical.choose_spec hx
 generalize Classical.choose hx = p at hsp
 obtain ⟨h1, h2⟩ := hsp
 clear hx
 subst h1
 exact calls_of_ht (c := Xl.C16) (T := T) (N := 15) (xs := [e23 _, e23 _]) (r := .bool _) Tryz.func16 (by kernel_rfl) T_ok (Xl.lex16 (MM + 6) MM (Nat.le_refl _) _ _ _ h2) hrel hs hg
noncomputable def oraG (f : Nat) : Option (List V → Option V) := match f with
 | 7 => some (oraEv Tryz.prog E 7)
 | 11 => some (oraEv Tryz.prog E 11)
 | 12 => some (oraEv Tryz.prog E 12)
 | 14 => some F14
 | 15 => some F15
 | 16 => some F16
 | 18 => some (oraEv Tryz.prog E 18)
 | 25 => some (oraEv Tryz.prog E 25)
 | f => oraT f
def oraDG (f : Nat) : Option (List D → List AObj → Option (D × List AObj)) := match f with
 | 24 => some apintF
 | f => oraDT f
noncomputable def EG : Env := { E with ora := oraG, oraD := oraDG, pureF := fun f => E.pureF f && !(f == 24) }
theorem oraG_ok : OSound False Tryz.prog EG := by
 intro f F h
 have h : oraG f = some F := h
 unfold oraG at h
 split at h
 ·cases h; exact oraEv_ok good is7
 ·cases h; exact oraEv_ok good is11
 ·cases h; exact oraEv_ok good is12
 ·cases h; exact ora14
 ·cases h; exact ora15
 ·cases h; exact ora16
 ·cases h; exact oraEv_ok good is18
 ·cases h; exact oraEv_ok good is25
 ·exact ora_ok f F h
theorem oraDG_ok : DSound False Tryz.prog EG := by
 intro f F h
 have h : oraDG f = some F := h
 unfold oraDG at h
 split at h
 ·cases h; exact orad24
 ·exact oraD_ok f F h
theorem goodG : Good False Tryz.prog EG := ⟨good.mixed, T_ok, names_ok, oraG_ok, oraDG_ok⟩
theorem ok11g (m : Nat) (a0 : S23) (o : S26) (h : f11 m a0 = some o) (n : Nat) (hn : m + 5 ≤ n) : Fn Tryz.prog EG n 11 [.v (e23 a0)] (e26 o) := by
 obtain ⟨n, rfl⟩ : ∃ q, n = q + 1 := ⟨n - 1, by omega⟩
 exact ora_fn (F := oraEv Tryz.prog E 11) (xs := [e23 a0]) (by kernel_rfl) rfl rfl (oraEv_eq fun k hk => ok11 m a0 o h k hk) rfl
theorem ok25g (m : Nat) (a0 : Int) (a1 : Int) (o : S26) (h : f25 m a0 a1 = some o) (n : Nat) (hn : m + 1 ≤ n) : Fn Tryz.prog EG n 25 [.v (eI a0), .v (eI a1)] (e26 o) := by
 obtain ⟨n, rfl⟩ : ∃ q, n = q + 1 := ⟨n - 1, by omega⟩
 exact ora_fn (F := oraEv Tryz.prog E 25) (xs := [eI a0, eI a1]) (by kernel_rfl) rfl rfl (oraEv_eq fun k hk => ok25 m a0 a1 o h k hk) rfl
noncomputable def f14 (m : Nat) (a0 : ByteArray) : Option (S23 × S26) := Xp.f14 MM a0
theorem ok14 (m : Nat) (a0 : ByteArray) (o : S23 × S26) (h : f14 m a0 = some o) (n : Nat) (hn : m + 1 ≤ n) : Fn Tryz.prog EG n 14 [.v (eS a0)] (.tuple [e23 o.1, e26 o.2]) := by
 obtain ⟨n, rfl⟩ : ∃ q, n = q + 1 := ⟨n - 1, by omega⟩
 refine ora_fn (F := F14) (xs := [eS a0]) (by kernel_rfl) rfl rfl ?_ rfl
 have h : Xp.f14 MM a0 = some o := h
 show (Xp.f14 MM a0).map _ = _
 rw [h]
 rfl
theorem ok7g (m : Nat) (a0 : S23) (o : S26) (h : f7 m a0 = some o) (n : Nat) (hn : m + 6 ≤ n) : Fn Tryz.prog EG n 7 [.v (e23 a0)] (e26 o) := by
 obtain ⟨n, rfl⟩ : ∃ q, n = q + 1 := ⟨n - 1, by omega⟩
 exact ora_fn (F := oraEv Tryz.prog E 7) (xs := [e23 a0]) (by kernel_rfl) rfl rfl (oraEv_eq fun k hk => ok7 m a0 o h k hk) rfl
theorem ok18g (m : Nat) (a0 : Int) (a1 : Int) (o : S26) (h : f18 m a0 a1 = some o) (n : Nat) (hn : m + 1 ≤ n) : Fn Tryz.prog EG n 18 [.v (eI a0), .v (eI a1)] (e26 o) := by
 obtain ⟨n, rfl⟩ : ∃ q, n = q + 1 := ⟨n - 1, by omega⟩
 exact ora_fn (F := oraEv Tryz.prog E 18) (xs := [eI a0, eI a1]) (by kernel_rfl) rfl rfl (oraEv_eq fun k hk => ok18 m a0 a1 o h k hk) rfl
noncomputable def f15 (m : Nat) (a0 : ByteArray) : Option (S23 × S26) := Xq.f15 MM a0
theorem ok15 (m : Nat) (a0 : ByteArray) (o : S23 × S26) (h : f15 m a0 = some o) (n : Nat) (hn : m + 1 ≤ n) : Fn Tryz.prog EG n 15 [.v (eS a0)] (.tuple [e23 o.1, e26 o.2]) := by
 obtain ⟨n, rfl⟩ : ∃ q, n = q + 1 := ⟨n - 1, by omega⟩
 refine ora_fn (F := F15) (xs := [eS a0]) (by kernel_rfl) rfl rfl ?_ rfl
 have h : Xq.f15 MM a0 = some o := h
 show (Xq.f15 MM a0).map _ = _
 rw [h]
 rfl
theorem ok12g (m : Nat) (a0 a1 : List ByteArray) (o : Bool) (h : f12 m a0 a1 = some o) (n : Nat) (hn : m + 1 ≤ n) : Fn Tryz.prog EG n 12 [.v ((eL eS) a0), .v ((eL eS) a1)] (eB o) := by
 obtain ⟨n, rfl⟩ : ∃ q, n = q + 1 := ⟨n - 1, by omega⟩
 exact ora_fn (F := oraEv Tryz.prog E 12) (xs := [(eL eS) a0, (eL eS) a1]) (by kernel_rfl) rfl rfl (oraEv_eq fun k hk => ok12 m a0 a1 o h k hk) rfl
noncomputable def f16 (m : Nat) (a0 a1 : S23) : Option Bool := Xl.f16 MM a0 a1
theorem ok16 (m : Nat) (a0 a1 : S23) (o : Bool) (h : f16 m a0 a1 = some o) (n : Nat) (hn : m + 1 ≤ n) : Fn Tryz.prog EG n 16 [.v (e23 a0), .v (e23 a1)] (eB o) := by
 obtain ⟨n, rfl⟩ : ∃ q, n = q + 1 := ⟨n - 1, by omega⟩
 exact ora_fn (F := F16) (xs := [e23 a0, e23 a1]) (by kernel_rfl) rfl rfl (F16_eq h) rfl
end Go.Abs
