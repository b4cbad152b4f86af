import Derived.Test.YthiikobbfpfbkaaDoorWF1
namespace Go.Abs
set_option linter.unusedVariables false
set_option maxRecDepth 100000
set_option maxHeartbeats 4000000
noncomputable def f47_r1 (m : Nat) (v35 v36 v46 : Int) (v52 : Bool) : Option (Stp Int (Int × Int)) :=
 cnd v52
 (some (.ret (-1)))
 (some (.nxt (w64 (w64 (w64 (v35 * 64) + w64 v46) - 128), w64 (v36 + 1))))
noncomputable def f47_B2 (m : Nat) (a0 : ByteArray) (a1 v2 v35 v36 : Int) : Option (Stp Int (Int × Int)) :=
 cnd (decide (v36 < v2))
 (bnd (sidx a0 (w64 (a1 + v36))) fun v46 =>
 f47_r1 m v35 v36 v46 ((decide (w64 v46 < 128)) || (decide (w64 v46 > 191))))
 (some (.brk (v35, v36)))
noncomputable def f47_r3 (m : Nat) (y55 : Int × Int) (v65 : Bool) : Option Int :=
 cnd v65
 (some (-1))
 (some y55.1)
noncomputable def f47_j4 (m : Nat) (a0 : ByteArray) (a1 v2 v3 : Int) : Option Int :=
 cnd (decide (w64 (a1 + v2) > (a0.size : Int)))
 (some (-1))
 (brk (iter (fun (y : Int × Int) => f47_B2 m a0 a1 v2 y.1 y.2) m (v3, 1)) some fun y55 =>
 bnd (f42 m y55.1) fun v57 =>
 bnd (cnd (!v57)
 (some true)
 (bnd (f48 m y55.1) fun v67 =>
 some (v67 != v2))) fun v65 =>
 f47_r3 m y55 v65)
noncomputable def f47_j5 (m : Nat) (a0 : ByteArray) (a1 v68 v69 : Int) : Option Int :=
 f47_j4 m a0 a1 v68 v69
noncomputable def f47_j6 (m : Nat) (a0 : ByteArray) (a1 v79 v80 : Int) : Option Int :=
 f47_j5 m a0 a1 v79 v80
noncomputable def f47 (m : Nat) (a0 : ByteArray) (a1 : Int) : Option Int :=
 bnd (sidx a0 a1) fun v1 =>
 cnd (decide (w64 v1 ≥ 240))
 (f47_j4 m a0 a1 4 (w64 (w64 v1 - 240)))
 (cnd (decide (w64 v1 ≥ 224))
 (f47_j5 m a0 a1 3 (w64 (w64 v1 - 224)))
 (cnd (decide (w64 v1 ≥ 192))
 (f47_j6 m a0 a1 2 (w64 (w64 v1 - 192)))
 (cnd (decide (w64 v1 ≥ 128))
 (some (-1))
 (f47_j6 m a0 a1 1 (w64 v1)))))
noncomputable abbrev X47 (n : Nat) : Cx := cxOf Proofs.Tryd.prog E 47 n
noncomputable def C47 : Code := bodyOf Proofs.Tryd.prog 47
noncomputable abbrev p47_0 : Code := cR (cR (cR (cR (cR (cR (cR C47))))))
theorem ok47 (m : Nat) (a0 : ByteArray) (a1 o : Int) (h : f47 m a0 a1 = some o) (n : Nat) (hn : m + 2 ≤ n) : Fn Proofs.Tryd.prog E n 47 [.v (eS a0), .v (eI a1)] (eI o) := by
 obtain ⟨n, rfl⟩ : ∃ q, n = q + 1 := ⟨n - 1, by omega⟩
 unfold f47 at h
 refine Fn.of (by kernel_rfl) (by kernel_rfl) (by kernel_rfl) ⟨(.v (.str a0))::(dI a1)::u40 (u25 []), []⟩ (by kernel_rfl) (Wp.sq (Wp.rg (Ops.sg 1 1 (Ops.dn (seqQ.n (Wp.sq (Wp.rg (Ops.sg 2 2 ?_))))))))
 obtain ⟨v1, ev1, h⟩ := bnd_some h
 refine Ops.on 3 (fun h0 e0 => (str_ix (T := T) h0 9 a0 a1 v1 ev1 (by kernel_rfl))) ?_
 refine Ops.sg 2 5 (Ops.dn (seqQ.n (Wp.sq (Wp.rg (Ops.sg 1 1 (Ops.dn (seqQ.n (Wp.sq (Wp.rg (Ops.sg 2 2 (Ops.dn (seqQ.n (Wp.sq (Wp.sq (Wp.rg (Ops.sg 2 2 (Ops.dn (seqQ.n ?_))))))))))))))))))
 have J47j16 : ∀ (v2 v3 : Int) (d4 d5 d6 d7 d8 d9 d10 d11 d12 d13 d14 d15 : D), f47_j4 m a0 a1 v2 v3 = some o → (seqQ (X47 n) (cR (cR (cR (cR (cR C47))))) (fnQ (X47 n).E.T (resOf Proofs.Tryd.prog 47) (eI o))) .normal ⟨Zs19 a0 a1 (w64 v1) v2 v3 (.v (.int .u8 v1)) (decide (w64 v1 ≥ 240)) (d4::d5::d6::d7::d8::d9::d10::d11::d12::d13::d14::d15::u38 []), []⟩ := by
  intro v2 v3 d4 d5 d6 d7 d8 d9 d10 d11 d12 d13 d14 d15 h
  unfold f47_j4 at h
  refine seqQ.n (Wp.sq (Wp.sq (Wp.rg (Ops.sg 6 6 (Ops.dn (seqQ.n ?_))))))
  refine Wp.cd h [0, 1, 4, 6, 7] 0 (fun h => ?_) (fun h => ?_)
  ·refine Wp.sq (Wp.rg (Ops.sg 1 1 (Ops.dn (seqQ.n (Wp.rt (sqQ.r (seqQ.r ?_)))))))
   exact fnQ.r' (X47 n) (fun z => (eI z)) h (RetOk.mk' (dI (-1)) (by kernel_rfl) (by kernel_rfl))
  ·refine Wp.sk (sqQ.n' (seqQ.n (Wp.sq (Wp.sq (Wp.rg (Ops.sg 1 1 (Ops.dn (seqQ.n (Wp.bk 0 [4, 6, 7] 0 ?_)))))))))
   have hLx54 : ∀ (kx38 : Nat) (v35 v36 : Int)  (ox37 : Int ⊕ (Int × Int)), iter (fun (y : Int × Int) => f47_B2 m a0 a1 v2 y.1 y.2) kx38 (v35, v36) = some ox37 → ∀ nx39, kx38 ≤ nx39 → (∀ r, ox37 = .inl r → ∀ σ, RetOk (X47 n) (resOf Proofs.Tryd.prog 47) (eI r) σ → (seqQ (X47 n) p47_0 (fnQ (X47 n).E.T (resOf Proofs.Tryd.prog 47) (eI o))) .ret σ) → (∀ (y : Int × Int) , ox37 = .inr y → (seqQ (X47 n) p47_0 (fnQ (X47 n).E.T (resOf Proofs.Tryd.prog 47) (eI o))) .normal ⟨Zs30 a0 a1 v2 y.1 ((dI y.2)::q40 (q18 [])), []⟩) → Lp (X47 n) [0, 1, 4, 6, 7, 8] 0 (cL (cL (cR (cL (cR (cR (cR (cR (cR (cR C47)))))))))) nx39 ⟨Zs30 a0 a1 v2 v35 ((dI v36)::q40 (q18 [])), []⟩ (blkQ (X47 n) 0 [4, 6, 7] 0 (seqQ (X47 n) p47_0 (fnQ (X47 n).E.T (resOf Proofs.Tryd.prog 47) (eI o)))) := by
    intro kx38
    induction kx38 with
    | zero => intro v35 v36  ox37 h; exact (iter_zero h).elim
    | succ kx38 ihx40 =>
     intro v35 v36  ox37 h nx39 hnx43 hrx41 hxx42
     obtain ⟨nx39, rfl⟩ : ∃ q, nx39 = q + 1 := ⟨nx39 - 1, by omega⟩
     obtain ⟨sx44, h, hsx45⟩ := iter_some h
     have h : f47_B2 m a0 a1 v2 v35 v36 = some sx44 := h
     unfold f47_B2 at h
     refine Lp.succ (Wp.sq (Wp.sq (Wp.rg (Ops.sg 3 3 (Ops.dn (seqQ.n ?_))))))
     refine Wp.cd h [0, 1, 4, 6, 7, 8] 0 (fun h => ?_) (fun h => ?_)
     ·refine Wp.sk (sqQ.n' (seqQ.n (Wp.sq (Wp.bk 1 [0, 1, 4, 6, 7, 8] 0 (Wp.sq (Wp.rg (Ops.sg 4 4 ?_)))))))
      obtain ⟨v46, ev46, h⟩ := bnd_some h
      refine Ops.on 5 (fun h0 e0 => (str_ix (T := T) h0 9 a0 (w64 (a1 + v36)) v46 ev46 (by kernel_rfl))) ?_
      refine Ops.sg 2 7 (Ops.dn (seqQ.n (Wp.sq (Wp.sq (Wp.rg (Ops.sg 3 3 ?_))))))
      refine Ops.hv (fun KQ => ∀ (d49 d50 : D) (v51 v52 : Bool), f47_r1 m v35 v36 v46 v52 = some sx44 → KQ 6 ⟨Zs30 a0 a1 v2 v35 ((dI v36)::(dI (w64 v46))::q25 ((dI v36)::(dI v2)::(dB (decide (v36 < v2)))::q2 ((.v (.str a0))::(dI a1)::(dI v36)::(dI (w64 (a1 + v36)))::(.v (.int .u8 v46))::(dI (w64 v46))::(dI (w64 v46))::(dB v51)::(dB v51)::d49::d50::(dB v52)::q15 []))), []⟩) ?_ fun J47j53 => ?_
      ·intro d49 d50 v51 v52 h
       unfold f47_r1 at h
       refine Ops.dn (seqQ.n ?_)
       refine Wp.cd h [0, 1, 4, 6, 7, 8, 9] 0 (fun h => ?_) (fun h => ?_)
       ·refine Wp.sq (Wp.rg (Ops.sg 1 1 (Ops.dn (seqQ.n (Wp.rt (sqQ.r (seqQ.r (blkQ.r (seqQ.r ?_)))))))))
        cases h
        refine lpQ.r (blkQ.r ?_)
        exact hrx41 _ hsx45 _ (RetOk.forget [0, 1, 4, 6, 7, 8] (by kernel_rfl) (RetOk.mk' (dI (-1)) (by kernel_rfl) (by kernel_rfl)))
       ·refine Wp.sk (sqQ.n' (seqQ.n (Wp.rg (Ops.sg 6 6 (Ops.dn (blkQ.n' (seqQ.n (Wp.rg (Ops.sg 3 3 (Ops.dn (lpQ.m ⟨Zs30 a0 a1 v2 (w64 (w64 (w64 (v35 * 64) + w64 v46) - 128)) ((dI (w64 (v36 + 1)))::q40 (q18 [])), []⟩ ?_)))))))))))
        cases h
        exact ihx40 (w64 (w64 (w64 (v35 * 64) + w64 v46) - 128)) (w64 (v36 + 1))  _ hsx45 _ (by omega) hrx41 hxx42
      refine Ops.hv (fun KQ => ∀ v47 : Bool, f47_r1 m v35 v36 v46 (v47 || (decide (w64 v46 > 191))) = some sx44 → KQ 3 ⟨Zs30 a0 a1 v2 v35 ((dI v36)::(dI (w64 v46))::q25 ((dI v36)::(dI v2)::(dB (decide (v36 < v2)))::q2 ((.v (.str a0))::(dI a1)::(dI v36)::(dI (w64 (a1 + v36)))::(.v (.int .u8 v46))::(dI (w64 v46))::(dI (w64 v46))::(dB v47)::(dB v47)::q18 []))), []⟩) ?_ fun G47g48 => Ops.sx (G47g48 (decide (w64 v46 < 128)) h)
      intro v47 h
      cases v47
      ·refine Ops.sg 3 6 ?_
       exact Ops.sx (J47j53 (dI (w64 v46)) (dB (decide (w64 v46 > 191))) false (decide (w64 v46 > 191)) h)
      ·refine Ops.sg 3 6 ?_
       exact Ops.sx (J47j53 U U true true h)
     ·refine Wp.ex 0 (sqQ.x (seqQ.x ?_))
      cases h
      refine lpQ.x (blkQ.w ⟨Zs30 a0 a1 v2 v35 ((dI v36)::q40 (q18 [])), []⟩ ?_)
      exact hxx42 (v35, v36)  hsx45
   refine Wp.loop' [0, 1, 4, 6, 7, 8] 0 (by kernel_rfl) ⟨Zs30 a0 a1 v2 v3 ((dI 1)::q40 (q18 [])), []⟩ (by kernel_rfl) ?_
   rcases brk_some h with ⟨r56, er56, h⟩ | ⟨y55, ey55, h⟩
   ·refine hLx54 _ v3 1  _ er56 n (by omega) (fun r er σ hσ => ?_) (fun y  ey => by cases ey)
    cases er
    refine seqQ.r ?_
    exact fnQ.r' (X47 n) (fun z => (eI z)) h hσ
   ·refine hLx54 _ v3 1  _ ey55 n (by omega) (fun r er => by cases er) (fun y  ey => ?_)
    cases ey
    refine seqQ.n (Wp.sq (Wp.sq (Wp.rg (Ops.sg 1 1 ?_))))
    obtain ⟨v57, ev57, h⟩ := bnd_some h
    refine Ops.on 2 (fun h0 e0 => (call_ok (E' := E) (h := h0) (by kernel_rfl) (Args.v (vI y55.1) (eI y55.1) (by kernel_rfl) Args.nil) (ok42 m y55.1 v57 ev57 n (by omega)))) ?_
    refine Ops.sg 2 4 ?_
    refine Ops.hv (fun KQ => ∀ (d60 d61 d62 d63 : D) (v64 v65 : Bool), f47_r3 m y55 v65 = some o → KQ 9 ⟨Zs30 a0 a1 v2 y55.1 ((dI y55.2)::q40 (q8 ((dI y55.1)::(dB v57)::(dB v64)::(dB v64)::d60::d61::d62::d63::(dB v65)::q1 []))), []⟩) ?_ fun J47j66 => ?_
    ·intro d60 d61 d62 d63 v64 v65 h
     unfold f47_r3 at h
     refine Ops.dn (seqQ.n ?_)
     refine Wp.cd h [4, 7] 0 (fun h => ?_) (fun h => ?_)
     ·refine Wp.sq (Wp.rg (Ops.sg 1 1 (Ops.dn (seqQ.n (Wp.rt (sqQ.r (seqQ.r ?_)))))))
      exact fnQ.r' (X47 n) (fun z => (eI z)) h (RetOk.mk' (dI (-1)) (by kernel_rfl) (by kernel_rfl))
     ·refine Wp.sk (sqQ.n' (seqQ.n (Wp.sq (Wp.rg (Ops.sg 2 2 (Ops.dn (seqQ.n (Wp.rt ?_))))))))
      exact fnQ.r' (X47 n) (fun z => (eI z)) h (RetOk.mk' (dI y55.1) (by kernel_rfl) (by kernel_rfl))
    obtain ⟨v65, ev65, h⟩ := bnd_some h
    refine Ops.hv (fun KQ => ∀ v58 : Bool, (cnd v58 (some true) (bnd (f48 m y55.1) fun v67 => some (v67 != v2))) = some v65 → KQ 4 ⟨Zs30 a0 a1 v2 y55.1 ((dI y55.2)::q40 (q8 ((dI y55.1)::(dB v57)::(dB v58)::(dB v58)::q6 []))), []⟩) ?_ fun G47g59 => Ops.sx (G47g59 (!v57) ev65)
    intro v58 ev65
    cases v58
    ·have ev65 := cnd_f ev65
     refine Ops.sg 1 5 ?_
     obtain ⟨v67, ev67, ev65⟩ := bnd_some ev65
     refine Ops.on 6 (fun h0 e0 => (call_ok (E' := E) (h := h0) (by kernel_rfl) (Args.v (vI y55.1) (eI y55.1) (by kernel_rfl) Args.nil) (ok48 m y55.1 v67 ev67 n (by omega)))) ?_
     refine Ops.sg 3 9 ?_
     exact Ops.sx (J47j66 (dI y55.1) (dI v67) (dI v2) (dB (v67 != v2)) false (v67 != v2) (some_sub (fun v65 => f47_r3 m y55 v65 = some o) ev65 h))
    ·have ev65 := cnd_t ev65
     refine Ops.sg 5 9 ?_
     exact Ops.sx (J47j66 U U U U true true (some_sub (fun v65 => f47_r3 m y55 v65 = some o) ev65 h))
 refine Wp.cd h [0, 1, 4, 6, 7] 0 (fun h => ?_) (fun h => ?_)
 ·refine Wp.sq (Wp.rg (Ops.sg 1 1 (Ops.dn (seqQ.n (Wp.rg (Ops.sg 3 3 (Ops.dn (sqQ.m ⟨(.v (.str a0))::(dI a1)::u2 ((dI 0)::(dI (w64 v1))::(dI 4)::(dI (w64 (w64 v1 - 240)))::u2 ((.v (.str a0))::(dI a1)::(.v (.int .u8 v1))::(dI (w64 v1))::(dI (w64 v1))::(dI (w64 v1))::(dB (decide (w64 v1 ≥ 240)))::(dI (w64 v1))::(dI (w64 (w64 v1 - 240)))::u40 (u8 []))), []⟩ ?_))))))))
  exact J47j16 4 (w64 (w64 v1 - 240)) _ _ _ _ _ _ _ _ _ _ _ _ h
 ·refine Wp.sq (Wp.rg (Ops.sg 2 2 (Ops.dn (seqQ.n ?_))))
  have J47j78 : ∀ (v68 v69 : Int) (d70 d71 d72 d73 d74 d75 d76 d77 : D), f47_j5 m a0 a1 v68 v69 = some o → (sqQ (X47 n) [0, 1, 4, 6, 7] 0 (seqQ (X47 n) (cR (cR (cR (cR (cR C47))))) (fnQ (X47 n).E.T (resOf Proofs.Tryd.prog 47) (eI o)))) .normal ⟨Zs19 a0 a1 (w64 v1) v68 v69 (.v (.int .u8 v1)) (decide (w64 v1 ≥ 240)) (u2 ((dI (w64 v1))::(dB (decide (w64 v1 ≥ 224)))::d70::d71::d72::d73::d74::d75::d76::d77::u38 [])), []⟩ := by
   intro v68 v69 d70 d71 d72 d73 d74 d75 d76 d77 h
   unfold f47_j5 at h
   refine sqQ.m ⟨Zs19 a0 a1 (w64 v1) v68 v69 (.v (.int .u8 v1)) (decide (w64 v1 ≥ 240)) (u2 ((dI (w64 v1))::(dB (decide (w64 v1 ≥ 224)))::d70::d71::d72::d73::d74::d75::d76::d77::u38 [])), []⟩ ?_
   exact J47j16 v68 v69 _ _ _ _ _ _ _ _ _ _ _ _ h
  refine Wp.cd h [0, 1, 4, 6, 7] 0 (fun h => ?_) (fun h => ?_)
  ·refine Wp.sq (Wp.rg (Ops.sg 1 1 (Ops.dn (seqQ.n (Wp.rg (Ops.sg 3 3 (Ops.dn (sqQ.m ⟨(.v (.str a0))::(dI a1)::u2 ((dI 0)::(dI (w64 v1))::(dI 3)::(dI (w64 (w64 v1 - 224)))::u2 ((.v (.str a0))::(dI a1)::(.v (.int .u8 v1))::(dI (w64 v1))::(dI (w64 v1))::(dI (w64 v1))::(dB (decide (w64 v1 ≥ 240)))::u2 ((dI (w64 v1))::(dB (decide (w64 v1 ≥ 224)))::(dI (w64 v1))::(dI (w64 (w64 v1 - 224)))::u40 (u4 [])))), []⟩ ?_))))))))
   exact J47j78 3 (w64 (w64 v1 - 224)) _ _ _ _ _ _ _ _ h
  ·refine Wp.sq (Wp.rg (Ops.sg 2 2 (Ops.dn (seqQ.n ?_))))
   have J47j85 : ∀ (v79 v80 : Int) (d81 d82 d83 d84 : D), f47_j6 m a0 a1 v79 v80 = some o → (sqQ (X47 n) [0, 1, 4, 6, 7] 0 (sqQ (X47 n) [0, 1, 4, 6, 7] 0 (seqQ (X47 n) (cR (cR (cR (cR (cR C47))))) (fnQ (X47 n).E.T (resOf Proofs.Tryd.prog 47) (eI o))))) .normal ⟨Zs19 a0 a1 (w64 v1) v79 v80 (.v (.int .u8 v1)) (decide (w64 v1 ≥ 240)) (u2 ((dI (w64 v1))::(dB (decide (w64 v1 ≥ 224)))::u2 ((dI (w64 v1))::(dB (decide (w64 v1 ≥ 192)))::d81::d82::d83::d84::u38 []))), []⟩ := by
    intro v79 v80 d81 d82 d83 d84 h
    unfold f47_j6 at h
    refine sqQ.m ⟨Zs19 a0 a1 (w64 v1) v79 v80 (.v (.int .u8 v1)) (decide (w64 v1 ≥ 240)) (u2 ((dI (w64 v1))::(dB (decide (w64 v1 ≥ 224)))::u2 ((dI (w64 v1))::(dB (decide (w64 v1 ≥ 192)))::d81::d82::d83::d84::u38 []))), []⟩ ?_
    exact J47j78 v79 v80 _ _ _ _ _ _ _ _ h
   refine Wp.cd h [0, 1, 4, 6, 7] 0 (fun h => ?_) (fun h => ?_)
   ·refine Wp.sq (Wp.rg (Ops.sg 1 1 (Ops.dn (seqQ.n (Wp.rg (Ops.sg 3 3 (Ops.dn (sqQ.m ⟨(.v (.str a0))::(dI a1)::u2 ((dI 0)::(dI (w64 v1))::(dI 2)::(dI (w64 (w64 v1 - 192)))::u2 ((.v (.str a0))::(dI a1)::(.v (.int .u8 v1))::(dI (w64 v1))::(dI (w64 v1))::(dI (w64 v1))::(dB (decide (w64 v1 ≥ 240)))::u2 ((dI (w64 v1))::(dB (decide (w64 v1 ≥ 224)))::u2 ((dI (w64 v1))::(dB (decide (w64 v1 ≥ 192)))::(dI (w64 v1))::(dI (w64 (w64 v1 - 192)))::u40 [])))), []⟩ ?_))))))))
    exact J47j85 2 (w64 (w64 v1 - 192)) _ _ _ _ h
   ·refine Wp.sq (Wp.rg (Ops.sg 2 2 (Ops.dn (seqQ.n ?_))))
    refine Wp.cd h [0, 1, 4, 6, 7] 0 (fun h => ?_) (fun h => ?_)
    ·refine Wp.sq (Wp.rg (Ops.sg 1 1 (Ops.dn (seqQ.n (Wp.rt (sqQ.r (sqQ.r (sqQ.r (sqQ.r (seqQ.r ?_))))))))))
     exact fnQ.r' (X47 n) (fun z => (eI z)) h (RetOk.mk' (dI (-1)) (by kernel_rfl) (by kernel_rfl))
    ·refine Wp.sk (sqQ.n' (sqQ.m ⟨(.v (.str a0))::(dI a1)::u2 ((dI 0)::(dI (w64 v1))::(dI 1)::(dI (w64 v1))::u2 ((.v (.str a0))::(dI a1)::(.v (.int .u8 v1))::(dI (w64 v1))::(dI (w64 v1))::(dI (w64 v1))::(dB (decide (w64 v1 ≥ 240)))::u2 ((dI (w64 v1))::(dB (decide (w64 v1 ≥ 224)))::u2 ((dI (w64 v1))::(dB (decide (w64 v1 ≥ 192)))::u2 ((dI (w64 v1))::(dB (decide (w64 v1 ≥ 128)))::u38 []))))), []⟩ ?_))
     exact J47j85 1 (w64 v1) _ _ _ _ h
noncomputable def f29_B1 (m : Nat) (a0 : ByteArray) (v12 : (List Int)) (v13 : Int) : Option (Stp ((List Int) × S27) ((List Int) × Int)) :=
 cnd (decide (v13 < (a0.size : Int)))
 (bnd (f47 m a0 v13) fun v23 =>
 cnd (decide (v23 < 0))
 (bnd (f34 m 5 v13) fun v24 =>
 some (.ret (([], v24))))
 (bnd (app 8 v12 [v23]) fun v25 =>
 bnd (f48 m v23) fun v26 =>
 some (.nxt (v25, w64 (v13 + v26)))))
 (some (.brk (v12, v13)))
noncomputable def f29 (m : Nat) (a0 : ByteArray) : Option ((List Int) × S27) :=
 cnd (decide ((a0.size : Int) > 4000))
 (bnd (f34 m 1 (-1)) fun v1 =>
 some (([], v1)))
 (brk (iter (fun (y : (List Int) × Int) => f29_B1 m a0 y.1 y.2) m ([], 0)) some fun y28 =>
 some ((y28.1, (⟨0, 0⟩ : S27))))
noncomputable abbrev X29 (n : Nat) : Cx := cxOf Proofs.Tryd.prog E 29 n
noncomputable def C29 : Code := bodyOf Proofs.Tryd.prog 29
theorem ok29 (m : Nat) (a0 : ByteArray) (o : ((List Int) × S27)) (h : f29 m a0 = some o) (n : Nat) (hn : m + 3 ≤ n) : Fn Proofs.Tryd.prog E n 29 [.v (eS a0)] (.tuple [(eL eI) o.1, e27 o.2]) := by
 obtain ⟨n, rfl⟩ : ∃ q, n = q + 1 := ⟨n - 1, by omega⟩
 unfold f29 at h
 refine Fn.of (by kernel_rfl) (by kernel_rfl) (by kernel_rfl) ⟨(.v (.str a0))::u31 [], []⟩ (by kernel_rfl) (Wp.sq (Wp.rg (Ops.sg 2 2 (Ops.dn (seqQ.n (Wp.sq (Wp.sq (Wp.rg (Ops.sg 3 3 (Ops.dn (seqQ.n ?_)))))))))))
 refine Wp.cd h [0, 2, 3] 1 (fun h => ?_) (fun h => ?_)
 ·refine Wp.sq (Wp.rg ?_)
  obtain ⟨v1, ev1, h⟩ := bnd_some h
  refine Ops.on 1 (fun h0 e0 => (call_ok (E' := E) (h := h0) (by kernel_rfl) (Args.v (vI 1) (eI 1) (by kernel_rfl) (Args.v (vI (-1)) (eI (-1)) (by kernel_rfl) Args.nil)) (ok34 m 1 (-1) v1 ev1 n (by omega)))) ?_
  refine Ops.sg 2 3 (Ops.dn (seqQ.n (Wp.rt (sqQ.r (seqQ.r ?_)))))
  exact fnQ.r' (X29 n) (fun z => (.tuple [(eL eI) z.1, e27 z.2])) h (RetOk.mk' (.v (.tuple [(.sl .nil (List.map eI [])), (.agg [(vI v1.fCode), (vI v1.fIndex)])])) (by kernel_rfl) (by kernel_rfl))
 ·refine Wp.sk (sqQ.n' (seqQ.n (Wp.sq (Wp.rg (Ops.sg 1 1 (Ops.dn (seqQ.n (Wp.sq (Wp.sq (Wp.rg (Ops.sg 1 1 (Ops.dn (seqQ.n (Wp.bk 0 [2, 3, 4] 2 ?_))))))))))))))
  have hLx27 : ∀ (kx15 : Nat) (v12 : (List Int)) (v13 : Int)  (ox14 : ((List Int) × S27) ⊕ ((List Int) × Int)), iter (fun (y : (List Int) × Int) => f29_B1 m a0 y.1 y.2) kx15 (v12, v13) = some ox14 → ∀ nx16, kx15 ≤ nx16 → (∀ r, ox14 = .inl r → ∀ σ, RetOk (X29 n) (resOf Proofs.Tryd.prog 29) (.tuple [(eL eI) r.1, e27 r.2]) σ → (seqQ (X29 n) (cR (cR (cR (cR C29)))) (fnQ (X29 n).E.T (resOf Proofs.Tryd.prog 29) (.tuple [(eL eI) o.1, e27 o.2]))) .ret σ) → (∀ (y : (List Int) × Int) , ox14 = .inr y → (seqQ (X29 n) (cR (cR (cR (cR C29)))) (fnQ (X29 n).E.T (resOf Proofs.Tryd.prog 29) (.tuple [(eL eI) o.1, e27 o.2]))) .normal ⟨Zs53 (.v (.sl .nil (List.map eI []))) y.1 (q27 []), [(.cells [(dI 0), (dI 0)]), .dead, (appO 1 (List.map eI y.1))]⟩) → Lp (X29 n) [0, 2, 3, 4, 5] 2 (cL (cL (cR (cL (cR (cR (cR C29))))))) nx16 ⟨Zs31 a0 (.v (.sl .nil (List.map eI []))) ((appD 2 (List.map eI v12))::(dI v13)::q26 []), [(.cells [(dI 0), (dI 0)]), .dead, (appO 1 (List.map eI v12))]⟩ (blkQ (X29 n) 0 [2, 3, 4] 2 (seqQ (X29 n) (cR (cR (cR (cR C29)))) (fnQ (X29 n).E.T (resOf Proofs.Tryd.prog 29) (.tuple [(eL eI) o.1, e27 o.2])))) := by
   intro kx15
   induction kx15 with
   | zero => intro v12 v13  ox14 h; exact (iter_zero h).elim
   | succ kx15 ihx17 =>
    intro v12 v13  ox14 h nx16 hnx20 hrx18 hxx19
    obtain ⟨nx16, rfl⟩ : ∃ q, nx16 = q + 1 := ⟨nx16 - 1, by omega⟩
    obtain ⟨sx21, h, hsx22⟩ := iter_some h
    have h : f29_B1 m a0 v12 v13 = some sx21 := h
    unfold f29_B1 at h
    refine Lp.succ (Wp.sq (Wp.sq (Wp.rg (Ops.sg 4 4 (Ops.dn (seqQ.n ?_))))))
    refine Wp.cd h [0, 2, 3, 4, 5] 3 (fun h => ?_) (fun h => ?_)
    ·refine Wp.sk (sqQ.n ⟨Zs31 a0 (.v (.sl .nil (List.map eI []))) ((appD 3 (List.map eI v12))::(dI v13)::q26 []), [(.cells [(dI 0), (dI 0)]), .dead, .dead, (appO 1 (List.map eI v12))]⟩ (by generalize v12 = z0; cases z0 <;> kernel_rfl) (seqQ.n (Wp.bk 1 [0, 2, 3, 4, 5] 4 (Wp.sq (Wp.rg (Ops.sg 2 2 ?_))))))
     obtain ⟨v23, ev23, h⟩ := bnd_some h
     refine Ops.on 3 (fun h0 e0 => (call_ok (E' := E) (h := h0) (by kernel_rfl) (Args.v (.str a0) (eS a0) (by kernel_rfl) (Args.v (vI v13) (eI v13) (by kernel_rfl) Args.nil)) (ok47 m a0 v13 v23 ev23 n (by omega)))) ?_
     refine Ops.sg 1 4 (Ops.dn (seqQ.n (Wp.sq (Wp.sq (Wp.rg (Ops.sg 2 2 (Ops.dn (seqQ.n ?_))))))))
     refine Wp.cd h [0, 2, 3, 4, 5, 6] 4 (fun h => ?_) (fun h => ?_)
     ·refine Wp.sq (Wp.rg (Ops.sg 1 1 ?_))
      obtain ⟨v24, ev24, h⟩ := bnd_some h
      refine Ops.on 2 (fun h0 e0 => (call_ok (E' := E) (h := h0) (by kernel_rfl) (Args.v (vI 5) (eI 5) (by kernel_rfl) (Args.v (vI v13) (eI v13) (by kernel_rfl) Args.nil)) (ok34 m 5 v13 v24 ev24 n (by omega)))) ?_
      refine Ops.sg 2 4 (Ops.dn (seqQ.n (Wp.rt (sqQ.r (seqQ.r (blkQ.r ?_))))))
      cases h
      refine lpQ.r (blkQ.r ?_)
      exact hrx18 _ hsx22 _ (RetOk.forget [0, 2, 3, 4, 5] (by kernel_rfl) (RetOk.mk' (.v (.tuple [(.sl .nil (List.map eI [])), (.agg [(vI v24.fCode), (vI v24.fIndex)])])) (by kernel_rfl) (by kernel_rfl)))
     ·refine Wp.sk (sqQ.n ⟨Zs31 a0 (.v (.sl .nil (List.map eI []))) ((appD 4 (List.map eI v12))::(dI v13)::(dI v23)::q25 []), [(.cells [(dI 0), (dI 0)]), .dead, .dead, .dead, (appO 1 (List.map eI v12))]⟩ (by generalize v12 = z0; cases z0 <;> kernel_rfl) (seqQ.n (Wp.sq (Wp.rg (Ops.sg 3 3 ?_)))))
      obtain ⟨v25, ev25, h⟩ := bnd_some h
      refine Ops.on 4 (fun h0 e0 => (app_r (T := T) (g := .nil) h0 22 3 4 1 ti3 .nonfull eI v12 [v23] v25 ev25 (by kernel_rfl) (by kernel_rfl) (by kernel_rfl) (by kernel_rfl) (fun _ => rfl) (hq_of e0 (by kernel_rfl)))) ?_
      refine Ops.sg 1 5 (Ops.dn (seqQ.n (Wp.rg (Ops.sg 2 2 ?_))))
      obtain ⟨v26, ev26, h⟩ := bnd_some h
      refine Ops.on 3 (fun h0 e0 => (call_ok (E' := E) (h := h0) (by kernel_rfl) (Args.v (vI v23) (eI v23) (by kernel_rfl) Args.nil) (ok48 m v23 v26 ev26 n (by omega)))) ?_
      refine Ops.sg 2 5 (Ops.dn (blkQ.n ⟨Zs31 a0 (.v (.sl .nil (List.map eI []))) ((appD 4 (List.map eI v25))::(dI (w64 (v13 + v26)))::q26 []), [(.cells [(dI 0), (dI 0)]), .dead, .dead, .dead, (appO 1 (List.map eI v25))]⟩ (by generalize v25 = z0; cases z0 <;> kernel_rfl) (lpQ.n ⟨Zs31 a0 (.v (.sl .nil (List.map eI []))) ((appD 2 (List.map eI v25))::(dI (w64 (v13 + v26)))::q26 []), [(.cells [(dI 0), (dI 0)]), .dead, (appO 1 (List.map eI v25))]⟩ (by generalize v25 = z0; cases z0 <;> kernel_rfl) ?_)))
      cases h
      exact ihx17 v25 (w64 (v13 + v26))  _ hsx22 _ (by omega) hrx18 hxx19
    ·refine Wp.ex 0 (sqQ.x (seqQ.x ?_))
     cases h
     refine lpQ.x (blkQ.x ⟨Zs53 (.v (.sl .nil (List.map eI []))) v12 (q27 []), [(.cells [(dI 0), (dI 0)]), .dead, (appO 1 (List.map eI v12))]⟩ (by generalize v12 = z0; cases z0 <;> kernel_rfl) ?_)
     exact hxx19 (v12, v13)  hsx22
  refine Wp.loop' [0, 2, 3, 4, 5] 2 (by kernel_rfl) ⟨Zs31 a0 (.v (.sl .nil (List.map eI []))) ((appD 2 (List.map eI []))::(dI 0)::q26 []), [(.cells [(dI 0), (dI 0)]), .dead, .dead]⟩ (by kernel_rfl) ?_
  rcases brk_some h with ⟨r29, er29, h⟩ | ⟨y28, ey28, h⟩
  ·refine hLx27 _ [] 0  _ er29 n (by omega) (fun r er σ hσ => ?_) (fun y  ey => by cases ey)
   cases er
   refine seqQ.r ?_
   exact fnQ.r' (X29 n) (fun z => (.tuple [(eL eI) z.1, e27 z.2])) h hσ
  ·refine hLx27 _ [] 0  _ ey28 n (by omega) (fun r er => by cases er) (fun y  ey => ?_)
   cases ey
   refine seqQ.n (Wp.sq (Wp.rg (Ops.sg 4 4 (Ops.dn (seqQ.n (Wp.rt ?_))))))
   exact fnQ.r' (X29 n) (fun z => (.tuple [(eL eI) z.1, e27 z.2])) h (RetOk.tup [(appD 2 (List.map eI y28.1)), (.v (.agg [(vI 0), (vI 0)]))] (by kernel_rfl) (.d (appD 2 (List.map eI y28.1)) _ (appD_frz _ _ _ _) (appF_nt _ _ _) (.v (.agg [(vI 0), (vI 0)]) _ (by kernel_rfl) (by kernel_rfl) .nil)))
noncomputable def f49_B1 (m : Nat) (a0 v4 : Int) : Option (Stp Bool (Int)) :=
 cnd (decide (v4 < (([40, 41, 91, 93, 124, 38, 45, 42, 43, 63, 123, 125, 44, 92]).length : Int)))
 (bnd (idx ([40, 41, 91, 93, 124, 38, 45, 42, 43, 63, 123, 125, 44, 92]) v4) fun v14 =>
 cnd (v14 == a0)
 (some (.ret true))
 (some (.nxt (w64 (v4 + 1)))))
 (some (.brk v4))
noncomputable def f49 (m : Nat) (a0 : Int) : Option Bool :=
 brk (iter (fun (y : Int) => f49_B1 m a0 y) m 0) some fun y16 =>
 some false
noncomputable abbrev X49 (n : Nat) : Cx := cxOf Proofs.Tryd.prog E 49 n
noncomputable def C49 : Code := bodyOf Proofs.Tryd.prog 49
theorem ok49 (m : Nat) (a0 : Int) (o : Bool) (h : f49 m a0 = some o) (n : Nat) (hn : m + 1 ≤ n) : Fn Proofs.Tryd.prog E n 49 [.v (eI a0)] (eB o) := by
 obtain ⟨n, rfl⟩ : ∃ q, n = q + 1 := ⟨n - 1, by omega⟩
 unfold f49 at h
 refine Fn.of (by kernel_rfl) (by kernel_rfl) (by kernel_rfl) ⟨(dI a0)::u14 [], []⟩ (by kernel_rfl) (Wp.sq (Wp.rg (Ops.sg 1 1 (Ops.dn (seqQ.n (Wp.sq (Wp.sq (Wp.rg (Ops.sg 1 1 ?_)))))))))
 refine Ops.on 2 (fun h0 e0 => (len_r (T := T) h0 22 3 .nonfull eI ([40, 41, 91, 93, 124, 38, 45, 42, 43, 63, 123, 125, 44, 92]) (by kernel_rfl))) ?_
 refine Ops.sg 1 3 (Ops.dn (seqQ.n (Wp.bk 0 [2] 0 ?_)))
 have hLx15 : ∀ (kx6 : Nat) (v4 : Int)  (ox5 : Bool ⊕ (Int)), iter (fun (y : Int) => f49_B1 m a0 y) kx6 v4 = some ox5 → ∀ nx7, kx6 ≤ nx7 → (∀ r, ox5 = .inl r → ∀ σ, RetOk (X49 n) (resOf Proofs.Tryd.prog 49) (eB r) σ → (seqQ (X49 n) (cR (cR C49)) (fnQ (X49 n).E.T (resOf Proofs.Tryd.prog 49) (eB o))) .ret σ) → (∀ (y : Int) , ox5 = .inr y → (seqQ (X49 n) (cR (cR C49)) (fnQ (X49 n).E.T (resOf Proofs.Tryd.prog 49) (eB o))) .normal ⟨Zs52 a0 (.v (.sl .nonfull (List.map eI ([40, 41, 91, 93, 124, 38, 45, 42, 43, 63, 123, 125, 44, 92])))) ((([40, 41, 91, 93, 124, 38, 45, 42, 43, 63, 123, 125, 44, 92]).length : Int)) ((dI y)::q7 []), []⟩) → Lp (X49 n) [0, 2, 5, 6, 7] 0 (cL (cL (cR (cL (cR C49))))) nx7 ⟨Zs52 a0 (.v (.sl .nonfull (List.map eI ([40, 41, 91, 93, 124, 38, 45, 42, 43, 63, 123, 125, 44, 92])))) ((([40, 41, 91, 93, 124, 38, 45, 42, 43, 63, 123, 125, 44, 92]).length : Int)) ((dI v4)::q7 []), []⟩ (blkQ (X49 n) 0 [2] 0 (seqQ (X49 n) (cR (cR C49)) (fnQ (X49 n).E.T (resOf Proofs.Tryd.prog 49) (eB o)))) := by
  intro kx6
  induction kx6 with
  | zero => intro v4  ox5 h; exact (iter_zero h).elim
  | succ kx6 ihx8 =>
   intro v4  ox5 h nx7 hnx11 hrx9 hxx10
   obtain ⟨nx7, rfl⟩ : ∃ q, nx7 = q + 1 := ⟨nx7 - 1, by omega⟩
   obtain ⟨sx12, h, hsx13⟩ := iter_some h
   have h : f49_B1 m a0 v4 = some sx12 := h
   unfold f49_B1 at h
   refine Lp.succ (Wp.sq (Wp.rg (Ops.sg 1 1 (Ops.dn (seqQ.n (Wp.sq ?_))))))
   refine Wp.cd h [0, 2, 5, 6, 7] 0 (fun h => ?_) (fun h => ?_)
   ·refine Wp.sk (sqQ.n' (seqQ.n (Wp.sq (Wp.bk 1 [0, 2, 5, 6, 7] 0 (Wp.sq (Wp.rg ?_))))))
    obtain ⟨v14, ev14, h⟩ := bnd_some h
    refine Ops.on 1 (fun h0 e0 => (ix_r (T := T) h0 22 3 1 .nonfull eI ([40, 41, 91, 93, 124, 38, 45, 42, 43, 63, 123, 125, 44, 92]) v4 v14 ev14 (by kernel_rfl) (by kernel_rfl) (fun _ => rfl))) ?_
    refine Ops.sg 2 3 (Ops.dn (seqQ.n (Wp.sq (Wp.rg (Ops.sg 3 3 (Ops.dn (seqQ.n ?_)))))))
    refine Wp.cd h [0, 2, 5, 6, 7] 0 (fun h => ?_) (fun h => ?_)
    ·refine Wp.sq (Wp.rg (Ops.sg 1 1 (Ops.dn (seqQ.n (Wp.rt (sqQ.r (blkQ.r (seqQ.r ?_))))))))
     cases h
     refine lpQ.r (blkQ.r ?_)
     exact hrx9 _ hsx13 _ (RetOk.forget [0, 2, 5, 6, 7] (by kernel_rfl) (RetOk.mk' (dB true) (by kernel_rfl) (by kernel_rfl)))
    ·refine Wp.sk (sqQ.n' (blkQ.n' (seqQ.n (Wp.rg (Ops.sg 2 2 (Ops.dn (lpQ.m ⟨Zs52 a0 (.v (.sl .nonfull (List.map eI ([40, 41, 91, 93, 124, 38, 45, 42, 43, 63, 123, 125, 44, 92])))) ((([40, 41, 91, 93, 124, 38, 45, 42, 43, 63, 123, 125, 44, 92]).length : Int)) ((dI (w64 (v4 + 1)))::q7 []), []⟩ ?_)))))))
     cases h
     exact ihx8 (w64 (v4 + 1))  _ hsx13 _ (by omega) hrx9 hxx10
   ·refine Wp.ex 0 (sqQ.x (seqQ.x ?_))
    cases h
    refine lpQ.x (blkQ.w ⟨Zs52 a0 (.v (.sl .nonfull (List.map eI ([40, 41, 91, 93, 124, 38, 45, 42, 43, 63, 123, 125, 44, 92])))) ((([40, 41, 91, 93, 124, 38, 45, 42, 43, 63, 123, 125, 44, 92]).length : Int)) ((dI v4)::q7 []), []⟩ ?_)
    exact hxx10 v4  hsx13
 refine Wp.loop' [0, 2, 5, 6, 7] 0 (by kernel_rfl) ⟨Zs52 a0 (.v (.sl .nonfull (List.map eI ([40, 41, 91, 93, 124, 38, 45, 42, 43, 63, 123, 125, 44, 92])))) ((([40, 41, 91, 93, 124, 38, 45, 42, 43, 63, 123, 125, 44, 92]).length : Int)) ((dI 0)::q7 []), []⟩ (by kernel_rfl) ?_
 rcases brk_some h with ⟨r17, er17, h⟩ | ⟨y16, ey16, h⟩
 ·refine hLx15 _ 0  _ er17 n (by omega) (fun r er σ hσ => ?_) (fun y  ey => by cases ey)
  cases er
  refine seqQ.r ?_
  exact fnQ.r' (X49 n) (fun z => (eB z)) h hσ
 ·refine hLx15 _ 0  _ ey16 n (by omega) (fun r er => by cases er) (fun y  ey => ?_)
  cases ey
  refine seqQ.n (Wp.sq (Wp.rg (Ops.sg 1 1 (Ops.dn (seqQ.n (Wp.rt ?_))))))
  exact fnQ.r' (X49 n) (fun z => (eB z)) h (RetOk.mk' (dB false) (by kernel_rfl) (by kernel_rfl))
noncomputable def f30_j1 (m : Nat) (v547 : (List S81)) (v548 v549 : Int) (v550 v551 : Bool) (v552 : Int) : Option (Stp ((List S81) × Int) ((List S81) × Int × Int × Bool × Bool × Int)) :=
 some (.nxt (v547, v548, v549, v550, v551, w64 (v552 + 1)))
noncomputable def f30_j2 (m : Nat) (v567 : (List S81)) (v568 v569 : Int) (v570 v571 : Bool) (v572 v573 : Int) : Option (Stp ((List S81) × Int) ((List S81) × Int × Int × Bool × Bool × Int)) :=
 bnd (app 16 v567 ([(⟨v573, true⟩ : S81)])) fun v575 =>
 f30_j1 m v575 v568 v569 v570 v571 v572
noncomputable def f30_j3 (m : Nat) (v576 : (List S81)) (v577 v578 : Int) (v579 v580 : Bool) (v581 v582 : Int) : Option (Stp ((List S81) × Int) ((List S81) × Int × Int × Bool × Bool × Int)) :=
 f30_j2 m v576 v577 v578 v579 v580 v581 v582
noncomputable def f30_j4 (m : Nat) (v533 v563 : Int) (v584 : (List S81)) (v585 : Int) (v586 : Bool) : Option (Stp ((List S81) × Int) ((List S81) × Int × Int × Bool × Bool × Int)) :=
 f30_j1 m v584 v533 v585 v586 false v563
noncomputable def f30_j5 (m : Nat) (v595 : (List S81)) (v596 v597 : Int) (v598 v599 : Bool) (v600 v601 : Int) : Option (Stp ((List S81) × Int) ((List S81) × Int × Int × Bool × Bool × Int)) :=
 f30_j3 m v595 v596 v597 v598 v599 v600 v601
noncomputable def f30_j6 (m : Nat) (v603 : (List S81)) (v604 v605 : Int) (v606 v607 : Bool) (v608 v609 : Int) : Option (Stp ((List S81) × Int) ((List S81) × Int × Int × Bool × Bool × Int)) :=
 f30_j5 m v603 v604 v605 v606 v607 v608 v609
noncomputable def f30_j7 (m : Nat) (v611 : (List S81)) (v612 v613 : Int) (v614 v615 : Bool) (v616 v617 : Int) : Option (Stp ((List S81) × Int) ((List S81) × Int × Int × Bool × Bool × Int)) :=
 f30_j6 m v611 v612 v613 v614 v615 v616 v617
noncomputable def f30_j8 (m : Nat) (v534 : Int) (v619 : (List S81)) (v620 : Int) (v621 v622 : Bool) (v623 v624 : Int) : Option (Stp ((List S81) × Int) ((List S81) × Int × Int × Bool × Bool × Int)) :=
 f30_j7 m v619 v620 v534 v621 v622 v623 v624
noncomputable def f30_j9 (m : Nat) (v534 : Int) (v643 : (List S81)) (v644 : Int) (v645 : Bool) (v646 v647 : Int) : Option (Stp ((List S81) × Int) ((List S81) × Int × Int × Bool × Bool × Int)) :=
 f30_j8 m v534 v643 v644 v645 false v646 v647
noncomputable def f30_j10 (m : Nat) (v533 v534 : Int) (v670 : (List S81)) (v671 : Bool) (v672 v673 : Int) : Option (Stp ((List S81) × Int) ((List S81) × Int × Int × Bool × Bool × Int)) :=
 f30_j9 m v534 v670 v533 v671 v672 v673
noncomputable def f30_j11 (m : Nat) (v533 v534 : Int) (v535 : Bool) (v696 : (List S81)) (v697 v698 : Int) : Option (Stp ((List S81) × Int) ((List S81) × Int × Int × Bool × Bool × Int)) :=
 f30_j10 m v533 v534 v696 v535 v697 v698
noncomputable def f30_B12 (m : Nat) (a0 : (List Int)) (v757 : Int) (v771 : (List S81)) (v772 : Int) : Option (Stp ((List S81) × Int) ((List S81) × Int)) :=
 cnd (decide (v772 < v757))
 (bnd (idx a0 v772) fun v782 =>
 bnd (app 16 v771 ([(⟨v782, true⟩ : S81)])) fun v783 =>
 some (.nxt (v783, w64 (v772 + 1))))
 (some (.brk (v771, v772)))
noncomputable def f30_r13 (m : Nat) (a0 : (List Int)) (v532 : (List S81)) (v533 v534 : Int) (v535 : Bool) (v563 v757 : Int) (v767 : Bool) : Option (Stp ((List S81) × Int) ((List S81) × Int × Int × Bool × Bool × Int)) :=
 cnd v767
 (some (.ret (([], v757))))
 (brk (iter (fun (y : (List S81) × Int) => f30_B12 m a0 v757 y.1 y.2) m (v532, v563)) (fun r => some (.ret r)) fun y785 =>
 f30_j11 m v533 v534 v535 y785.1 y785.2 125)
noncomputable def f30_j14 (m : Nat) (a0 : (List Int)) (v532 : (List S81)) (v533 v534 : Int) (v535 : Bool) (v563 v757 : Int) : Option (Stp ((List S81) × Int) ((List S81) × Int × Int × Bool × Bool × Int)) :=
 bnd (cnd (v757 == (a0.length : Int))
 (some true)
 (bnd (idx a0 v757) fun v787 =>
 some (v787 != 125))) fun v767 =>
 f30_r13 m a0 v532 v533 v534 v535 v563 v757 v767
noncomputable def f30_r15 (m : Nat) (a0 : (List Int)) (v532 : (List S81)) (v533 v534 : Int) (v535 : Bool) (v563 : Int) (v755 : Bool) : Option (Stp ((List S81) × Int) ((List S81) × Int × Int × Bool × Bool × Int)) :=
 cnd v755
 (f30_j14 m a0 v532 v533 v534 v535 v563 (w64 (w64 (w64 (w64 (v563 + 1) + 1) + 1) + 1)))
 (f30_j14 m a0 v532 v533 v534 v535 v563 (w64 (w64 (w64 (v563 + 1) + 1) + 1)))
noncomputable def f30_r16 (m : Nat) (a0 : (List Int)) (v532 : (List S81)) (v533 v534 : Int) (v535 : Bool) (v563 : Int) (v745 : Bool) : Option (Stp ((List S81) × Int) ((List S81) × Int × Int × Bool × Bool × Int)) :=
 bnd (cnd v745
 (bnd (idx a0 (w64 (w64 (w64 (v563 + 1) + 1) + 1))) fun v788 =>
 some (decide (v788 ≤ 57)))
 (some false)) fun v755 =>
 f30_r15 m a0 v532 v533 v534 v535 v563 v755
noncomputable def f30_r17 (m : Nat) (a0 : (List Int)) (v532 : (List S81)) (v533 v534 : Int) (v535 : Bool) (v563 : Int) (v735 : Bool) : Option (Stp ((List S81) × Int) ((List S81) × Int × Int × Bool × Bool × Int)) :=
 cnd v735
 (some (.ret (([], w64 (w64 (v563 + 1) + 1)))))
 (bnd (cnd (decide (w64 (w64 (w64 (v563 + 1) + 1) + 1) < (a0.length : Int)))
 (bnd (idx a0 (w64 (w64 (w64 (v563 + 1) + 1) + 1))) fun v789 =>
 some (decide (v789 ≥ 48)))
 (some false)) fun v745 =>
 f30_r16 m a0 v532 v533 v534 v535 v563 v745)
noncomputable def f30_r18 (m : Nat) (a0 : (List Int)) (v532 : (List S81)) (v533 v534 : Int) (v535 : Bool) (v563 : Int) (v725 : Bool) : Option (Stp ((List S81) × Int) ((List S81) × Int × Int × Bool × Bool × Int)) :=
 cnd v725
 (some (.ret (([], w64 (v563 + 1)))))
 (bnd (cnd ((w64 (w64 (v563 + 1) + 1)) == (a0.length : Int))
 (some true)
 (bnd (idx a0 (w64 (w64 (v563 + 1) + 1))) fun v790 =>
 some (v790 != 44))) fun v735 =>
 f30_r17 m a0 v532 v533 v534 v535 v563 v735)
noncomputable def f30_r19 (m : Nat) (a0 : (List Int)) (v532 : (List S81)) (v533 v534 : Int) (v535 : Bool) (v563 : Int) (v715 : Bool) : Option (Stp ((List S81) × Int) ((List S81) × Int × Int × Bool × Bool × Int)) :=
 bnd (cnd v715
 (some true)
 (bnd (idx a0 (w64 (v563 + 1))) fun v791 =>
 some (decide (v791 > 57)))) fun v725 =>
 f30_r18 m a0 v532 v533 v534 v535 v563 v725
noncomputable def f30_r20 (m : Nat) (a0 : (List Int)) (v532 : (List S81)) (v533 v534 : Int) (v535 : Bool) (v563 : Int) (v705 : Bool) : Option (Stp ((List S81) × Int) ((List S81) × Int × Int × Bool × Bool × Int)) :=
 cnd v705
 (bnd (cnd ((w64 (v563 + 1)) == (a0.length : Int))
 (some true)
 (bnd (idx a0 (w64 (v563 + 1))) fun v792 =>
 some (decide (v792 < 48)))) fun v715 =>
 f30_r19 m a0 v532 v533 v534 v535 v563 v715)
 (some (.ret (([], v563))))
noncomputable def f30_r21 (m : Nat) (a0 : (List Int)) (v532 : (List S81)) (v533 v534 : Int) (v535 : Bool) (v563 v564 : Int) (v694 : Bool) : Option (Stp ((List S81) × Int) ((List S81) × Int × Int × Bool × Bool × Int)) :=
 cnd v694
 (f30_j11 m v533 v534 v535 v532 v563 v564)
 (f30_r20 m a0 v532 v533 v534 v535 v563 ((v564 == 123) && (!v535)))
noncomputable def f30_r22 (m : Nat) (a0 : (List Int)) (v532 : (List S81)) (v533 v534 : Int) (v535 : Bool) (v563 v564 : Int) (v687 : Bool) : Option (Stp ((List S81) × Int) ((List S81) × Int × Int × Bool × Bool × Int)) :=
 f30_r21 m a0 v532 v533 v534 v535 v563 v564 (v687 && (!v535))
noncomputable def f30_r23 (m : Nat) (a0 : (List Int)) (v532 : (List S81)) (v533 v534 : Int) (v535 : Bool) (v563 v564 : Int) (v680 : Bool) : Option (Stp ((List S81) × Int) ((List S81) × Int × Int × Bool × Bool × Int)) :=
 f30_r22 m a0 v532 v533 v534 v535 v563 v564 (v680 || (v564 == 63))
noncomputable def f30_r24 (m : Nat) (a0 : (List Int)) (v532 : (List S81)) (v533 v534 : Int) (v535 : Bool) (v563 v564 : Int) (v668 : Bool) : Option (Stp ((List S81) × Int) ((List S81) × Int × Int × Bool × Bool × Int)) :=
 cnd v668
 (f30_j10 m v533 v534 v532 true v563 v564)
 (f30_r23 m a0 v532 v533 v534 v535 v563 v564 ((v564 == 42) || (v564 == 43)))
noncomputable def f30_r25 (m : Nat) (a0 : (List Int)) (v532 : (List S81)) (v533 v534 : Int) (v535 : Bool) (v563 v564 : Int) (v661 : Bool) : Option (Stp ((List S81) × Int) ((List S81) × Int × Int × Bool × Bool × Int)) :=
 f30_r24 m a0 v532 v533 v534 v535 v563 v564 (v661 && (!v535))
noncomputable def f30_r26 (m : Nat) (a0 : (List Int)) (v532 : (List S81)) (v533 v534 : Int) (v535 : Bool) (v563 v564 : Int) (v654 : Bool) : Option (Stp ((List S81) × Int) ((List S81) × Int × Int × Bool × Bool × Int)) :=
 f30_r25 m a0 v532 v533 v534 v535 v563 v564 (v654 || (v564 == 45))
noncomputable def f30_r27 (m : Nat) (a0 : (List Int)) (v532 : (List S81)) (v533 v534 : Int) (v535 : Bool) (v563 v564 : Int) (v641 : Bool) : Option (Stp ((List S81) × Int) ((List S81) × Int × Int × Bool × Bool × Int)) :=
 cnd v641
 (f30_j9 m v534 v532 (w64 (v533 - 1)) false v563 v564)
 (f30_r26 m a0 v532 v533 v534 v535 v563 v564 ((v564 == 124) || (v564 == 38)))
noncomputable def f30_r28 (m : Nat) (a0 : (List Int)) (v532 : (List S81)) (v533 v534 : Int) (v535 v536 : Bool) (v563 v564 : Int) (v631 : Bool) : Option (Stp ((List S81) × Int) ((List S81) × Int × Int × Bool × Bool × Int)) :=
 f30_r27 m a0 v532 v533 v534 v535 v563 v564 (v631 && ((!v535) || v536))
noncomputable def f30_r29 (m : Nat) (a0 : (List Int)) (v532 : (List S81)) (v533 v534 : Int) (v535 v536 : Bool) (v563 v564 : Int) (v593 : Bool) : Option (Stp ((List S81) × Int) ((List S81) × Int × Int × Bool × Bool × Int)) :=
 cnd v593
 (f30_j5 m v532 v533 0 false false v563 v564)
 (cnd (decide (v534 > 0))
 (some (.ret (([], v563))))
 (cnd (v564 == 91)
 (f30_j7 m v532 v533 1 v535 false v563 v564)
 (cnd (v564 == 40)
 (cnd (v533 == 80)
 (some (.ret (([], v563))))
 (f30_j8 m v534 v532 (w64 (v533 + 1)) true true v563 v564))
 (f30_r28 m a0 v532 v533 v534 v535 v536 v563 v564 ((v564 == 41) && (decide (v533 > 0)))))))
noncomputable def f30_j30 (m : Nat) (a0 : (List Int)) (v532 : (List S81)) (v533 v534 : Int) (v535 v536 : Bool) (v563 v564 : Int) (v565 : Bool) : Option (Stp ((List S81) × Int) ((List S81) × Int × Int × Bool × Bool × Int)) :=
 cnd v565
 (bnd (app 16 v532 ([(⟨v564, false⟩ : S81)])) fun v584 =>
 cnd (decide (v534 > 0))
 (f30_j4 m v533 v563 v584 2 v535)
 (f30_j4 m v533 v563 v584 v534 false))
 (f30_r29 m a0 v532 v533 v534 v535 v536 v563 v564 ((v564 == 93) && (v534 == 2)))
noncomputable def f30_r31 (m : Nat) (a0 : (List Int)) (v532 : (List S81)) (v533 v534 : Int) (v535 v536 : Bool) (v537 : Int) (v804 : Bool) : Option (Stp ((List S81) × Int) ((List S81) × Int × Int × Bool × Bool × Int)) :=
 cnd v804
 (some (.ret (([], w64 (v537 + 1)))))
 (bnd (idx a0 (w64 (v537 + 1))) fun v806 =>
 f30_j30 m a0 v532 v533 v534 v535 v536 (w64 (v537 + 1)) v806 true)
noncomputable def f30_r32 (m : Nat) (a0 : (List Int)) (v532 : (List S81)) (v533 v534 : Int) (v535 v536 : Bool) (v537 v554 : Int) (v561 : Bool) : Option (Stp ((List S81) × Int) ((List S81) × Int × Int × Bool × Bool × Int)) :=
 cnd (v554 == 92)
 (bnd (cnd ((w64 (v537 + 1)) == (a0.length : Int))
 (some true)
 (bnd (idx a0 (w64 (v537 + 1))) fun v807 =>
 some (v807 == 0))) fun v804 =>
 f30_r31 m a0 v532 v533 v534 v535 v536 v537 v804)
 (f30_j30 m a0 v532 v533 v534 v535 v536 v537 v554 v561)
noncomputable def f30_B33 (m : Nat) (a0 : (List Int)) (v532 : (List S81)) (v533 v534 : Int) (v535 v536 : Bool) (v537 : Int) : Option (Stp ((List S81) × Int) ((List S81) × Int × Int × Bool × Bool × Int)) :=
 cnd (decide (v537 < (a0.length : Int)))
 (bnd (idx a0 v537) fun v554 =>
 bnd (f49 m v554) fun v555 =>
 f30_r32 m a0 v532 v533 v534 v535 v536 v537 v554 ((!v555) && (v554 != 0)))
 (some (.brk (v532, v533, v534, v535, v536, v537)))
noncomputable def f30_r34 (m : Nat) (a0 : (List Int)) (y809 : (List S81) × Int × Int × Bool × Bool × Int) (v823 : Bool) : Option ((List S81) × Int) :=
 cnd v823
 (some (([], (a0.length : Int))))
 (some ((y809.1, (-1))))
noncomputable def f30_r35 (m : Nat) (a0 : (List Int)) (y809 : (List S81) × Int × Int × Bool × Bool × Int) (v816 : Bool) : Option ((List S81) × Int) :=
 f30_r34 m a0 y809 (v816 || (decide (y809.2.2.1 > 0)))
noncomputable def f30 (m : Nat) (a0 : (List Int)) : Option ((List S81) × Int) :=
 brk (iter (fun (y : (List S81) × Int × Int × Bool × Bool × Int) => f30_B33 m a0 y.1 y.2.1 y.2.2.1 y.2.2.2.1 y.2.2.2.2.1 y.2.2.2.2.2) m ([], 0, 0, true, false, 0)) some fun y809 =>
 f30_r35 m a0 y809 (y809.2.2.2.1 || (decide (y809.2.1 > 0)))
noncomputable abbrev X30 (n : Nat) : Cx := cxOf Proofs.Tryd.prog E 30 n
noncomputable def C30 : Code := bodyOf Proofs.Tryd.prog 30
noncomputable abbrev p30_0 : Code := cR (cR (cR (cR (cR (cR C30)))))
noncomputable abbrev p30_1 : Code := cL (cL (cR (cL (cR (cR (cR (cR (cR C30))))))))
noncomputable abbrev p30_2 : Code := cR (cR p30_1)
noncomputable abbrev p30_3 : Code := cR (cR (cR (cR (cR (cR (cL (cL (cR p30_1))))))))
noncomputable abbrev p30_4 : Code := cR (cR (cL (cR (cL (cL (cR (cR (cR (cR (cR (cL (cL (cR p30_1)))))))))))))
noncomputable abbrev p30_5 : Code := cR (cR (cR (cR (cR (cR (cL (cR (cR (cR (cR (cR (cR (cR (cR (cR (cR (cR (cR (cR (cR (cR (cR (cR (cL (cL (cR (cR (cR (cR (cR (cL (cL (cR p30_1)))))))))))))))))))))))))))))))))
noncomputable abbrev p30_6 : Code := cR (cR p30_5)
noncomputable abbrev p30_7 : Code := cL (cL (cL (cR p30_5)))
noncomputable abbrev k30_0 : List Nat := [0, 2, 3, 4, 5, 6, 7, 8]
noncomputable abbrev k30_1 : List Nat := [0, 2, 3, 4, 5, 6]
noncomputable abbrev k30_2 : List Nat := [0, 2, 3, 4, 5, 6, 7, 8, 9]
noncomputable abbrev k30_3 : List Nat := [0, 2, 3, 4, 5, 6, 7, 8, 12]
set_option maxHeartbeats 0 in
theorem f30_hLx808 (m : Nat) (a0 : (List Int)) (o : ((List S81) × Int)) (n : Nat) (hn : m + 2 ≤ n + 1)  : ∀ (kx539 : Nat) (v532 : (List S81)) (v533 v534 : Int) (v535 v536 : Bool) (v537 : Int)  (ox538 : ((List S81) × Int) ⊕ ((List S81) × Int × Int × Bool × Bool × Int)), iter (fun (y : (List S81) × Int × Int × Bool × Bool × Int) => f30_B33 m a0 y.1 y.2.1 y.2.2.1 y.2.2.2.1 y.2.2.2.2.1 y.2.2.2.2.2) kx539 (v532, v533, v534, v535, v536, v537) = some ox538 → ∀ nx540, kx539 ≤ nx540 → (∀ r, ox538 = .inl r → ∀ σ, RetOk (X30 n) (resOf Proofs.Tryd.prog 30) (.tuple [(eL e81) r.1, eI r.2]) σ → (seqQ (X30 n) p30_0 (fnQ (X30 n).E.T (resOf Proofs.Tryd.prog 30) (.tuple [(eL e81) o.1, eI o.2]))) .ret σ) → (∀ (y : (List S81) × Int × Int × Bool × Bool × Int) , ox538 = .inr y → (seqQ (X30 n) p30_0 (fnQ (X30 n).E.T (resOf Proofs.Tryd.prog 30) (.tuple [(eL e81) o.1, eI o.2]))) .normal ⟨Zs27 a0 y.1 y.2.1 y.2.2.1 y.2.2.2.1 (q31 []), [(appO 2 (List.map e81 y.1))]⟩) → Lp (X30 n) k30_0 0 p30_1 nx540 ⟨(dP eI a0)::q1 ((appD 0 (List.map e81 v532))::(dI 0)::(dI v533)::(dI v534)::(dB v535)::(dB v536)::(dI v537)::q40 (q40 (q40 (q40 (q40 (q29 [])))))), [(appO 2 (List.map e81 v532))]⟩ (blkQ (X30 n) 0 k30_1 0 (seqQ (X30 n) p30_0 (fnQ (X30 n).E.T (resOf Proofs.Tryd.prog 30) (.tuple [(eL e81) o.1, eI o.2])))) := by
 intro kx539
 induction kx539 with
 | zero => intro v532 v533 v534 v535 v536 v537  ox538 h; exact (iter_zero h).elim
 | succ kx539 ihx541 =>
  intro v532 v533 v534 v535 v536 v537  ox538 h nx540 hnx544 hrx542 hxx543
  obtain ⟨nx540, rfl⟩ : ∃ q, nx540 = q + 1 := ⟨nx540 - 1, by omega⟩
  obtain ⟨sx545, h, hsx546⟩ := iter_some h
  have h : f30_B33 m a0 v532 v533 v534 v535 v536 v537 = some sx545 := h
  unfold f30_B33 at h
  refine Lp.succ (Wq.sq (Wq.sq (Wq.rg (Oq.sg 2 2 ?_))))
  refine Ops.on 3 (fun h0 e0 => (len_r (T := T) h0 22 3 .plain eI a0 (by as_aux_lemma => kernel_rfl))) ?_
  refine Oq.sg 1 4 (Oq.dn (seqQ.n ?_))
  refine Wq.cd h k30_0 1 (fun h => ?_) (fun h => ?_)
  ·refine Wq.sk (sqQ.n ⟨Zs39 a0 v532 v533 v534 v535 v536 v537 (q40 (q40 (q40 (q40 (q40 (q29 [])))))), [.dead, (appO 2 (List.map e81 v532))]⟩ (by generalize v532 = z0; cases z0 <;> (as_aux_lemma => kernel_rfl)) (seqQ.n (Wq.sq ?_)))
   have J30j553 : ∀ (v547 : (List S81)) (v548 v549 : Int) (v550 v551 : Bool) (v552 : Int) , f30_j1 m v547 v548 v549 v550 v551 v552 = some sx545 → (seqQ (X30 n) p30_2 (lpQ (X30 n) k30_0 0 p30_1 nx540 (blkQ (X30 n) 0 k30_1 0 (seqQ (X30 n) p30_0 (fnQ (X30 n).E.T (resOf Proofs.Tryd.prog 30) (.tuple [(eL e81) o.1, eI o.2])))))) .normal ⟨Zs21 a0 v547 v548 v549 v550 ((dB v551)::(dI v552)::q40 (q40 (q40 (q40 (q40 (q29 [])))))), [.dead, .dead, (appO 2 (List.map e81 v547))]⟩ := by
    intro v547 v548 v549 v550 v551 v552  h
    unfold f30_j1 at h
    refine seqQ.n (Wq.rg (Oq.sg 3 3 (Oq.dn (lpQ.n ⟨(dP eI a0)::q1 ((appD 0 (List.map e81 v547))::(dI 0)::(dI v548)::(dI v549)::(dB v550)::(dB v551)::(dI (w64 (v552 + 1)))::q40 (q40 (q40 (q40 (q40 (q29 [])))))), [(appO 2 (List.map e81 v547))]⟩ (by generalize v547 = z0; cases z0 <;> (as_aux_lemma => kernel_rfl)) ?_))))
    cases h
    exact ihx541 v547 v548 v549 v550 v551 (w64 (v552 + 1))  _ hsx546 _ (by omega) hrx542 hxx543
   refine Wq.bk 1 k30_0 2 (Wq.sq (Wq.rg (Oq.sg 2 2 ?_)))
   obtain ⟨v554, ev554, h⟩ := bnd_some h
   refine Ops.on 3 (fun h0 e0 => (ix_r (T := T) h0 22 3 1 .plain eI a0 v537 v554 ev554 (by as_aux_lemma => kernel_rfl) (by as_aux_lemma => kernel_rfl) (fun _ => rfl))) ?_
   refine Oq.sg 2 5 (Oq.dn (seqQ.n (Wq.sq (Wq.rg (Oq.sg 1 1 ?_)))))
   obtain ⟨v555, ev555, h⟩ := bnd_some h
   refine Ops.on 2 (fun h0 e0 => (call_ok (E' := E) (h := h0) (by as_aux_lemma => kernel_rfl) (Args.v (vI v554) (eI v554) (by as_aux_lemma => kernel_rfl) Args.nil) (ok49 m v554 v555 ev555 n (by omega)))) ?_
   refine Oq.sg 2 4 ?_
   refine Ops.hv (fun KQ => ∀ (d558 d559 : D) (v560 v561 : Bool), f30_r32 m a0 v532 v533 v534 v535 v536 v537 v554 v561 = some sx545 → KQ 7 ⟨Zs39 a0 v532 v533 v534 v535 v536 v537 ((dI v554)::q9 ((dP eI a0)::(dI v537)::(.vptr [(vI v554)])::(dI v554)::(dI v554)::(dB v555)::(dB v560)::(dB v560)::d558::d559::(dB v561)::q40 (q40 (q40 (q40 (q40 (q8 []))))))), [.dead, (appO 2 (List.map e81 v532))]⟩) ?_ fun J30j562 => ?_
   ·intro d558 d559 v560 v561 h
    unfold f30_r32 at h
    refine Oq.sg 1 8 (Oq.dn (seqQ.n (Wq.sq (Wq.sq (Wq.rg (Oq.sg 2 2 (Oq.dn (seqQ.n ?_))))))))
    have J30j566 : ∀ (v563 v564 : Int) (v565 : Bool) , f30_j30 m a0 v532 v533 v534 v535 v536 v563 v564 v565 = some sx545 → (seqQ (X30 n) (cR (cR (cR (cL (cL (cR p30_1)))))) (blkQ (X30 n) 1 k30_0 2 (seqQ (X30 n) p30_2 (lpQ (X30 n) k30_0 0 p30_1 nx540 (blkQ (X30 n) 0 k30_1 0 (seqQ (X30 n) p30_0 (fnQ (X30 n).E.T (resOf Proofs.Tryd.prog 30) (.tuple [(eL e81) o.1, eI o.2])))))))) .normal ⟨Zs21 a0 v532 v533 v534 v535 ((dB v536)::(dI v563)::(dI v564)::(dB v565)::q40 (q40 (q40 (q40 (q40 (q27 [])))))), [.dead, .dead, (appO 2 (List.map e81 v532))]⟩ := by
     intro v563 v564 v565  h
     unfold f30_j30 at h
     refine seqQ.n (Wq.sq (Wq.rg (Oq.sg 2 2 (Oq.dn (seqQ.n (Wq.sq (Wq.rg (Oq.sg 1 1 (Oq.dn (seqQ.n (Wq.sq ?_)))))))))))
     have J30j574 : ∀ (v567 : (List S81)) (v568 v569 : Int) (v570 v571 : Bool) (v572 v573 : Int) , f30_j2 m v567 v568 v569 v570 v571 v572 v573 = some sx545 → (seqQ (X30 n) p30_3 (blkQ (X30 n) 1 k30_0 2 (seqQ (X30 n) p30_2 (lpQ (X30 n) k30_0 0 p30_1 nx540 (blkQ (X30 n) 0 k30_1 0 (seqQ (X30 n) p30_0 (fnQ (X30 n).E.T (resOf Proofs.Tryd.prog 30) (.tuple [(eL e81) o.1, eI o.2])))))))) .normal ⟨Zs8 a0 v567 v568 v569 ((dB v570)::(dB v571)::(dI v572)::(dI v573)::q40 (q40 (q40 (q40 (q40 (q28 [])))))), (dd 3 [(appO 2 (List.map e81 v567))])⟩ := by
      intro v567 v568 v569 v570 v571 v572 v573  h
      unfold f30_j2 at h
      refine seqQ.n (Wq.rg (Oq.sg 4 4 ?_))
      obtain ⟨v575, ev575, h⟩ := bnd_some h
      refine Ops.on 5 (fun h0 e0 => (app_r (T := T) (g := .nil) h0 62 82 3 2 ti82 .nonfull e81 v567 ([(⟨v573, true⟩ : S81)]) v575 ev575 (by as_aux_lemma => kernel_rfl) (by as_aux_lemma => kernel_rfl) (by as_aux_lemma => kernel_rfl) (by as_aux_lemma => kernel_rfl) (fun _ => rfl) (hq_of e0 (by as_aux_lemma => kernel_rfl)))) ?_
      refine Oq.sg 1 6 (Oq.dn (blkQ.n ⟨Zs21 a0 v575 v568 v569 v570 ((dB v571)::(dI v572)::q40 (q40 (q40 (q40 (q40 (q29 [])))))), [.dead, .dead, (appO 2 (List.map e81 v575))]⟩ (by generalize v575 = z0; cases z0 <;> (as_aux_lemma => kernel_rfl)) ?_))
      exact J30j553 v575 v568 v569 v570 v571 v572  h
     refine Wq.bk 2 k30_2 3 (Wq.sq (Wq.rg (Oq.sg 2 2 (Oq.dn (seqQ.n ?_)))))
     have J30j583 : ∀ (v576 : (List S81)) (v577 v578 : Int) (v579 v580 : Bool) (v581 v582 : Int) , f30_j3 m v576 v577 v578 v579 v580 v581 v582 = some sx545 → (blkQ (X30 n) 2 k30_2 3 (seqQ (X30 n) p30_3 (blkQ (X30 n) 1 k30_0 2 (seqQ (X30 n) p30_2 (lpQ (X30 n) k30_0 0 p30_1 nx540 (blkQ (X30 n) 0 k30_1 0 (seqQ (X30 n) p30_0 (fnQ (X30 n).E.T (resOf Proofs.Tryd.prog 30) (.tuple [(eL e81) o.1, eI o.2]))))))))) .normal ⟨Zs8 a0 v576 v577 v578 ((dB v579)::(dB v580)::(dI v581)::(dI v582)::q40 (q40 (q40 (q40 (q40 (q28 [])))))), (dd 3 [(appO 2 (List.map e81 v576))])⟩ := by
      intro v576 v577 v578 v579 v580 v581 v582  h
      unfold f30_j3 at h
      refine blkQ.n ⟨Zs8 a0 v576 v577 v578 ((dB v579)::(dB v580)::(dI v581)::(dI v582)::q40 (q40 (q40 (q40 (q40 (q28 [])))))), (dd 3 [(appO 2 (List.map e81 v576))])⟩ (by generalize v576 = z0; cases z0 <;> (as_aux_lemma => kernel_rfl)) ?_
      exact J30j574 v576 v577 v578 v579 v580 v581 v582  h
     refine Wq.cd h k30_2 3 (fun h => ?_) (fun h => ?_)
     ·refine Wq.sq (Wq.rg (Oq.sg 4 4 ?_))
      obtain ⟨v584, ev584, h⟩ := bnd_some h
      refine Ops.on 5 (fun h0 e0 => (app_r (T := T) (g := .nil) h0 62 82 2 2 ti82 .nonfull e81 v532 ([(⟨v564, false⟩ : S81)]) v584 ev584 (by as_aux_lemma => kernel_rfl) (by as_aux_lemma => kernel_rfl) (by as_aux_lemma => kernel_rfl) (by as_aux_lemma => kernel_rfl) (fun _ => rfl) (hq_of e0 (by as_aux_lemma => kernel_rfl)))) ?_
      refine Oq.sg 1 6 (Oq.dn (seqQ.n (Wq.sq (Wq.sq (Wq.rg (Oq.sg 2 2 (Oq.dn (seqQ.n ?_))))))))
      have J30j587 : ∀ (v585 : Int) (v586 : Bool) , f30_j4 m v533 v563 v584 v585 v586 = some sx545 → (seqQ (X30 n) p30_4 (sqQ (X30 n) k30_2 3 (blkQ (X30 n) 2 k30_2 3 (seqQ (X30 n) p30_3 (blkQ (X30 n) 1 k30_0 2 (seqQ (X30 n) p30_2 (lpQ (X30 n) k30_0 0 p30_1 nx540 (blkQ (X30 n) 0 k30_1 0 (seqQ (X30 n) p30_0 (fnQ (X30 n).E.T (resOf Proofs.Tryd.prog 30) (.tuple [(eL e81) o.1, eI o.2]))))))))))) .normal ⟨Zs50 a0 v584 v533 ((dI v585)::(dB v586)::(dB false)::(dI v563)::q40 (q40 (q40 (q40 (q40 (q29 [])))))), (dd 4 [(appO 2 (List.map e81 v584))])⟩ := by
       intro v585 v586  h
       unfold f30_j4 at h
       refine seqQ.n (Wq.ex 1 (sqQ.x (blkQ.y (by as_aux_lemma => kernel_rfl) (seqQ.x (blkQ.x ⟨Zs21 a0 v584 v533 v585 v586 ((dB false)::(dI v563)::q40 (q40 (q40 (q40 (q40 (q29 [])))))), [.dead, .dead, (appO 2 (List.map e81 v584))]⟩ (by generalize v584 = z0; cases z0 <;> (as_aux_lemma => kernel_rfl)) ?_)))))
       exact J30j553 v584 v533 v585 v586 false v563  h
      refine Wq.cd h k30_0 4 (fun h => ?_) (fun h => ?_)
      ·refine Wq.rg (Oq.sg 1 1 (Oq.dn (sqQ.n ⟨Zs50 a0 v584 v533 ((dI 2)::(dB v535)::(dB false)::(dI v563)::q40 (q40 (q40 (q40 (q40 (q29 [])))))), (dd 4 [(appO 2 (List.map e81 v584))])⟩ (by generalize v584 = z0; cases z0 <;> (as_aux_lemma => kernel_rfl)) ?_)))
       exact J30j587 2 v535  h
      ·refine Wq.rg (Oq.sg 1 1 (Oq.dn (sqQ.n ⟨Zs50 a0 v584 v533 ((dI v534)::(dB false)::(dB false)::(dI v563)::q40 (q40 (q40 (q40 (q40 (q29 [])))))), (dd 4 [(appO 2 (List.map e81 v584))])⟩ (by generalize v584 = z0; cases z0 <;> (as_aux_lemma => kernel_rfl)) ?_)))
       exact J30j587 v534 false  h
     ·refine Wq.sq (Wq.rg (Oq.sg 3 3 ?_))
      refine Ops.hv (fun KQ => ∀ (d590 d591 : D) (v592 v593 : Bool), f30_r29 m a0 v532 v533 v534 v535 v536 v563 v564 v593 = some sx545 → KQ 6 ⟨Zs21 a0 v532 v533 v534 v535 ((dB false)::(dI v563)::(dI v564)::(dB v565)::(dB v536)::q40 (q1 ((dB v536)::q1 ((dB v565)::(dB v565)::q8 ((dI v564)::(dB v592)::(dB v592)::d590::d591::(dB v593)::q40 (q40 (q40 (q40 (q7 []))))))))), [.dead, .dead, (appO 2 (List.map e81 v532))]⟩) ?_ fun J30j594 => ?_
      ·intro d590 d591 v592 v593 h
       unfold f30_r29 at h
       refine Oq.sg 1 7 (Oq.dn (seqQ.n ?_))
       have J30j602 : ∀ (v595 : (List S81)) (v596 v597 : Int) (v598 v599 : Bool) (v600 v601 : Int) , f30_j5 m v595 v596 v597 v598 v599 v600 v601 = some sx545 → (sqQ (X30 n) k30_2 3 (blkQ (X30 n) 2 k30_2 3 (seqQ (X30 n) p30_3 (blkQ (X30 n) 1 k30_0 2 (seqQ (X30 n) p30_2 (lpQ (X30 n) k30_0 0 p30_1 nx540 (blkQ (X30 n) 0 k30_1 0 (seqQ (X30 n) p30_0 (fnQ (X30 n).E.T (resOf Proofs.Tryd.prog 30) (.tuple [(eL e81) o.1, eI o.2])))))))))) .normal ⟨Zs8 a0 v595 v596 v597 ((dB v598)::(dB v599)::(dI v600)::(dI v601)::q40 (q40 (q40 (q40 (q40 (q28 [])))))), (dd 3 [(appO 2 (List.map e81 v595))])⟩ := by
        intro v595 v596 v597 v598 v599 v600 v601  h
        unfold f30_j5 at h
        refine sqQ.n ⟨Zs8 a0 v595 v596 v597 ((dB v598)::(dB v599)::(dI v600)::(dI v601)::q40 (q40 (q40 (q40 (q40 (q28 [])))))), (dd 3 [(appO 2 (List.map e81 v595))])⟩ (by generalize v595 = z0; cases z0 <;> (as_aux_lemma => kernel_rfl)) ?_
        exact J30j583 v595 v596 v597 v598 v599 v600 v601  h
       refine Wq.cd h k30_2 3 (fun h => ?_) (fun h => ?_)
       ·refine Wq.sq (Wq.rg (Oq.sg 1 1 (Oq.dn (seqQ.n (Wq.rg (Oq.sg 1 1 (Oq.dn (sqQ.n ⟨(dP eI a0)::q1 ((appD 3 (List.map e81 v532))::(dI 0)::(dI v533)::(dI 0)::(dB false)::(dB false)::(dI v563)::(dI v564)::q40 (q40 (q40 (q40 (q40 (q28 [])))))), (dd 3 [(appO 2 (List.map e81 v532))])⟩ (by generalize v532 = z0; cases z0 <;> (as_aux_lemma => kernel_rfl)) ?_))))))))
        exact J30j602 v532 v533 0 false false v563 v564  h
       ·refine Wq.sq (Wq.rg (Oq.sg 3 3 (Oq.dn (seqQ.n ?_))))
        have J30j610 : ∀ (v603 : (List S81)) (v604 v605 : Int) (v606 v607 : Bool) (v608 v609 : Int) , f30_j6 m v603 v604 v605 v606 v607 v608 v609 = some sx545 → (sqQ (X30 n) k30_2 3 (sqQ (X30 n) k30_2 3 (blkQ (X30 n) 2 k30_2 3 (seqQ (X30 n) p30_3 (blkQ (X30 n) 1 k30_0 2 (seqQ (X30 n) p30_2 (lpQ (X30 n) k30_0 0 p30_1 nx540 (blkQ (X30 n) 0 k30_1 0 (seqQ (X30 n) p30_0 (fnQ (X30 n).E.T (resOf Proofs.Tryd.prog 30) (.tuple [(eL e81) o.1, eI o.2]))))))))))) .normal ⟨Zs8 a0 v603 v604 v605 ((dB v606)::(dB v607)::(dI v608)::(dI v609)::q40 (q40 (q40 (q40 (q40 (q28 [])))))), (dd 3 [(appO 2 (List.map e81 v603))])⟩ := by
         intro v603 v604 v605 v606 v607 v608 v609  h
         unfold f30_j6 at h
         refine sqQ.n ⟨Zs8 a0 v603 v604 v605 ((dB v606)::(dB v607)::(dI v608)::(dI v609)::q40 (q40 (q40 (q40 (q40 (q28 [])))))), (dd 3 [(appO 2 (List.map e81 v603))])⟩ (by generalize v603 = z0; cases z0 <;> (as_aux_lemma => kernel_rfl)) ?_
         exact J30j602 v603 v604 v605 v606 v607 v608 v609  h
        refine Wq.cd h k30_2 3 (fun h => ?_) (fun h => ?_)
        ·refine Wq.sq (Wq.rg (Oq.sg 3 3 (Oq.dn (seqQ.n (Wq.rt (sqQ.r (sqQ.r (sqQ.r (blkQ.r (seqQ.r (blkQ.r (seqQ.r ?_))))))))))))
         cases h
         refine lpQ.r (blkQ.r ?_)
         exact hrx542 _ hsx546 _ (RetOk.forget k30_0 (by as_aux_lemma => kernel_rfl) (RetOk.mk' (.v (.tuple [(.sl .nil (List.map e81 [])), (vI v563)])) (by as_aux_lemma => kernel_rfl) (by as_aux_lemma => kernel_rfl)))
        ·refine Wq.sq (Wq.rg (Oq.sg 3 3 (Oq.dn (seqQ.n ?_))))
         have J30j618 : ∀ (v611 : (List S81)) (v612 v613 : Int) (v614 v615 : Bool) (v616 v617 : Int) , f30_j7 m v611 v612 v613 v614 v615 v616 v617 = some sx545 → (sqQ (X30 n) k30_2 3 (sqQ (X30 n) k30_2 3 (sqQ (X30 n) k30_2 3 (blkQ (X30 n) 2 k30_2 3 (seqQ (X30 n) p30_3 (blkQ (X30 n) 1 k30_0 2 (seqQ (X30 n) p30_2 (lpQ (X30 n) k30_0 0 p30_1 nx540 (blkQ (X30 n) 0 k30_1 0 (seqQ (X30 n) p30_0 (fnQ (X30 n).E.T (resOf Proofs.Tryd.prog 30) (.tuple [(eL e81) o.1, eI o.2])))))))))))) .normal ⟨Zs8 a0 v611 v612 v613 ((dB v614)::(dB v615)::(dI v616)::(dI v617)::q40 (q40 (q40 (q40 (q40 (q28 [])))))), (dd 3 [(appO 2 (List.map e81 v611))])⟩ := by
          intro v611 v612 v613 v614 v615 v616 v617  h
          unfold f30_j7 at h
          refine sqQ.n ⟨Zs8 a0 v611 v612 v613 ((dB v614)::(dB v615)::(dI v616)::(dI v617)::q40 (q40 (q40 (q40 (q40 (q28 [])))))), (dd 3 [(appO 2 (List.map e81 v611))])⟩ (by generalize v611 = z0; cases z0 <;> (as_aux_lemma => kernel_rfl)) ?_
          exact J30j610 v611 v612 v613 v614 v615 v616 v617  h
         refine Wq.cd h k30_2 3 (fun h => ?_) (fun h => ?_)
         ·refine Wq.rg (Oq.sg 1 1 (Oq.dn (sqQ.n ⟨(dP eI a0)::q1 ((appD 3 (List.map e81 v532))::(dI 0)::(dI v533)::(dI 1)::(dB v535)::(dB false)::(dI v563)::(dI v564)::q40 (q40 (q40 (q40 (q40 (q28 [])))))), (dd 3 [(appO 2 (List.map e81 v532))])⟩ (by generalize v532 = z0; cases z0 <;> (as_aux_lemma => kernel_rfl)) ?_)))
          exact J30j618 v532 v533 1 v535 false v563 v564  h
         ·refine Wq.sq (Wq.rg (Oq.sg 3 3 (Oq.dn (seqQ.n ?_))))
          have J30j625 : ∀ (v619 : (List S81)) (v620 : Int) (v621 v622 : Bool) (v623 v624 : Int) , f30_j8 m v534 v619 v620 v621 v622 v623 v624 = some sx545 → (sqQ (X30 n) k30_2 3 (sqQ (X30 n) k30_2 3 (sqQ (X30 n) k30_2 3 (sqQ (X30 n) k30_2 3 (blkQ (X30 n) 2 k30_2 3 (seqQ (X30 n) p30_3 (blkQ (X30 n) 1 k30_0 2 (seqQ (X30 n) p30_2 (lpQ (X30 n) k30_0 0 p30_1 nx540 (blkQ (X30 n) 0 k30_1 0 (seqQ (X30 n) p30_0 (fnQ (X30 n).E.T (resOf Proofs.Tryd.prog 30) (.tuple [(eL e81) o.1, eI o.2]))))))))))))) .normal ⟨Zs8 a0 v619 v620 v534 ((dB v621)::(dB v622)::(dI v623)::(dI v624)::q40 (q40 (q40 (q40 (q40 (q28 [])))))), (dd 3 [(appO 2 (List.map e81 v619))])⟩ := by
           intro v619 v620 v621 v622 v623 v624  h
           unfold f30_j8 at h
           refine sqQ.n ⟨Zs8 a0 v619 v620 v534 ((dB v621)::(dB v622)::(dI v623)::(dI v624)::q40 (q40 (q40 (q40 (q40 (q28 [])))))), (dd 3 [(appO 2 (List.map e81 v619))])⟩ (by generalize v619 = z0; cases z0 <;> (as_aux_lemma => kernel_rfl)) ?_
           exact J30j618 v619 v620 v534 v621 v622 v623 v624  h
          refine Wq.cd h k30_2 3 (fun h => ?_) (fun h => ?_)
          ·refine Wq.sq (Wq.sq (Wq.rg (Oq.sg 2 2 (Oq.dn (seqQ.n ?_)))))
           refine Wq.cd h [0, 2, 3, 4, 5, 8, 9] 3 (fun h => ?_) (fun h => ?_)
           ·refine Wq.sq (Wq.rg (Oq.sg 3 3 (Oq.dn (seqQ.n (Wq.rt (sqQ.r (seqQ.r (sqQ.r (sqQ.r (sqQ.r (sqQ.r (sqQ.r (blkQ.r (seqQ.r (blkQ.r (seqQ.r ?_))))))))))))))))
            cases h
            refine lpQ.r (blkQ.r ?_)
            exact hrx542 _ hsx546 _ (RetOk.forget k30_0 (by as_aux_lemma => kernel_rfl) (RetOk.mk' (.v (.tuple [(.sl .nil (List.map e81 [])), (vI v563)])) (by as_aux_lemma => kernel_rfl) (by as_aux_lemma => kernel_rfl)))
           ·refine Wq.sk (sqQ.n ⟨Zs8 a0 v532 v533 v534 (q2 ((dI v563)::(dI v564)::q40 (q40 (q40 (q40 (q40 (q28 []))))))), (dd 3 [(appO 2 (List.map e81 v532))])⟩ (by generalize v532 = z0; cases z0 <;> (as_aux_lemma => kernel_rfl)) (seqQ.n (Wq.sq (Wq.rg (Oq.sg 3 3 (Oq.dn (seqQ.n (Wq.sq (Wq.rg (Oq.sg 1 1 (Oq.dn (seqQ.n (Wq.rg (Oq.sg 1 1 (Oq.dn (sqQ.n ⟨Zs8 a0 v532 (w64 (v533 + 1)) v534 ((dB true)::(dB true)::(dI v563)::(dI v564)::q40 (q40 (q40 (q40 (q40 (q28 [])))))), (dd 3 [(appO 2 (List.map e81 v532))])⟩ (by generalize v532 = z0; cases z0 <;> (as_aux_lemma => kernel_rfl)) ?_))))))))))))))))
            exact J30j625 v532 (w64 (v533 + 1)) true true v563 v564  h
          ·refine Wq.sq (Wq.rg (Oq.sg 3 3 ?_))
           refine Ops.hv (fun KQ => ∀ (d628 d629 : D) (v630 v631 : Bool), f30_r28 m a0 v532 v533 v534 v535 v536 v563 v564 v631 = some sx545 → KQ 6 ⟨Zs0 a0 v532 v533 v534 v535 v563 v564 v565 v536 v593 v592 d590 d591 (decide (v534 > 0)) (v564 == 91) (v564 == 40) (q6 ((dI v564)::(dB v630)::(dB v630)::d628::d629::(dB v631)::q40 (q40 (q40 (q25 []))))), [.dead, .dead, (appO 2 (List.map e81 v532))]⟩) ?_ fun J30j632 => ?_
           ·intro d628 d629 v630 v631 h
            unfold f30_r28 at h
            refine Oq.sg 1 7 ?_
            refine Ops.hv (fun KQ => ∀ (d635 d636 d637 d638 d639 : D) (v640 v641 : Bool), f30_r27 m a0 v532 v533 v534 v535 v563 v564 v641 = some sx545 → KQ 13 ⟨Zs0 a0 v532 v533 v534 v535 v563 v564 v565 v536 v593 v592 d590 d591 (decide (v534 > 0)) (v564 == 91) (v564 == 40) (q6 ((dI v564)::(dB v630)::(dB v630)::d628::d629::(dB v640)::(dB v640)::d635::d636::d637::d638::d639::(dB v641)::q40 (q40 (q40 (q18 []))))), [.dead, .dead, (appO 2 (List.map e81 v532))]⟩) ?_ fun J30j642 => ?_
            ·intro d635 d636 d637 d638 d639 v640 v641 h
             unfold f30_r27 at h
             refine Oq.sg 1 14 (Oq.dn (seqQ.n ?_))
             have J30j648 : ∀ (v643 : (List S81)) (v644 : Int) (v645 : Bool) (v646 v647 : Int) , f30_j9 m v534 v643 v644 v645 v646 v647 = some sx545 → (sqQ (X30 n) k30_2 3 (sqQ (X30 n) k30_2 3 (sqQ (X30 n) k30_2 3 (sqQ (X30 n) k30_2 3 (sqQ (X30 n) k30_2 3 (blkQ (X30 n) 2 k30_2 3 (seqQ (X30 n) p30_3 (blkQ (X30 n) 1 k30_0 2 (seqQ (X30 n) p30_2 (lpQ (X30 n) k30_0 0 p30_1 nx540 (blkQ (X30 n) 0 k30_1 0 (seqQ (X30 n) p30_0 (fnQ (X30 n).E.T (resOf Proofs.Tryd.prog 30) (.tuple [(eL e81) o.1, eI o.2])))))))))))))) .normal ⟨Zs8 a0 v643 v644 v534 ((dB v645)::(dB false)::(dI v646)::(dI v647)::q40 (q40 (q40 (q40 (q40 (q28 [])))))), (dd 3 [(appO 2 (List.map e81 v643))])⟩ := by
              intro v643 v644 v645 v646 v647  h
              unfold f30_j9 at h
              refine sqQ.n ⟨Zs8 a0 v643 v644 v534 ((dB v645)::(dB false)::(dI v646)::(dI v647)::q40 (q40 (q40 (q40 (q40 (q28 [])))))), (dd 3 [(appO 2 (List.map e81 v643))])⟩ (by generalize v643 = z0; cases z0 <;> (as_aux_lemma => kernel_rfl)) ?_
              exact J30j625 v643 v644 v645 false v646 v647  h
             refine Wq.cd h k30_2 3 (fun h => ?_) (fun h => ?_)
             ·refine Wq.sq (Wq.rg (Oq.sg 3 3 (Oq.dn (seqQ.n (Wq.rg (Oq.sg 1 1 (Oq.dn (sqQ.n ⟨Zs8 a0 v532 (w64 (v533 - 1)) v534 ((dB false)::(dB false)::(dI v563)::(dI v564)::q40 (q40 (q40 (q40 (q40 (q28 [])))))), (dd 3 [(appO 2 (List.map e81 v532))])⟩ (by generalize v532 = z0; cases z0 <;> (as_aux_lemma => kernel_rfl)) ?_))))))))
              exact J30j648 v532 (w64 (v533 - 1)) false v563 v564  h
             ·refine Wq.sq (Wq.rg (Oq.sg 3 3 ?_))
              refine Ops.hv (fun KQ => ∀ (d651 d652 : D) (v653 v654 : Bool), f30_r26 m a0 v532 v533 v534 v535 v563 v564 v654 = some sx545 → KQ 6 ⟨Zs0 a0 v532 v533 v534 v535 v563 v564 v565 v536 v593 v592 d590 d591 (decide (v534 > 0)) (v564 == 91) (v564 == 40) (q5 ((dB v641)::(dI v564)::(dB v630)::(dB v630)::d628::d629::(dB v640)::(dB v640)::d635::d636::d637::d638::d639::(dB v641)::q3 ((dI v564)::(dB v653)::(dB v653)::d651::d652::(dB v654)::q40 (q40 (q40 (q9 [])))))), [.dead, .dead, (appO 2 (List.map e81 v532))]⟩) ?_ fun J30j655 => ?_
              ·intro d651 d652 v653 v654 h
               unfold f30_r26 at h
               refine Oq.sg 1 7 ?_
               refine Ops.hv (fun KQ => ∀ (d658 d659 : D) (v660 v661 : Bool), f30_r25 m a0 v532 v533 v534 v535 v563 v564 v661 = some sx545 → KQ 10 ⟨Zs0 a0 v532 v533 v534 v535 v563 v564 v565 v536 v593 v592 d590 d591 (decide (v534 > 0)) (v564 == 91) (v564 == 40) (q5 ((dB v641)::(dI v564)::(dB v630)::(dB v630)::d628::d629::(dB v640)::(dB v640)::d635::d636::d637::d638::d639::(dB v641)::q3 ((dI v564)::(dB v653)::(dB v653)::d651::d652::(dB v660)::(dB v660)::d658::d659::(dB v661)::q40 (q40 (q40 (q5 [])))))), [.dead, .dead, (appO 2 (List.map e81 v532))]⟩) ?_ fun J30j662 => ?_
               ·intro d658 d659 v660 v661 h
                unfold f30_r25 at h
                refine Oq.sg 1 11 ?_
                refine Ops.hv (fun KQ => ∀ (d665 d666 : D) (v667 v668 : Bool), f30_r24 m a0 v532 v533 v534 v535 v563 v564 v668 = some sx545 → KQ 14 ⟨Zs0 a0 v532 v533 v534 v535 v563 v564 v565 v536 v593 v592 d590 d591 (decide (v534 > 0)) (v564 == 91) (v564 == 40) (q5 ((dB v641)::(dI v564)::(dB v630)::(dB v630)::d628::d629::(dB v640)::(dB v640)::d635::d636::d637::d638::d639::(dB v641)::q3 ((dI v564)::(dB v653)::(dB v653)::d651::d652::(dB v660)::(dB v660)::d658::d659::(dB v667)::(dB v667)::d665::d666::(dB v668)::q40 (q40 (q40 (q1 [])))))), [.dead, .dead, (appO 2 (List.map e81 v532))]⟩) ?_ fun J30j669 => ?_
                ·intro d665 d666 v667 v668 h
                 unfold f30_r24 at h
                 refine Oq.sg 1 15 (Oq.dn (seqQ.n ?_))
                 have J30j674 : ∀ (v670 : (List S81)) (v671 : Bool) (v672 v673 : Int) , f30_j10 m v533 v534 v670 v671 v672 v673 = some sx545 → (sqQ (X30 n) k30_2 3 (sqQ (X30 n) k30_2 3 (sqQ (X30 n) k30_2 3 (sqQ (X30 n) k30_2 3 (sqQ (X30 n) k30_2 3 (sqQ (X30 n) k30_2 3 (blkQ (X30 n) 2 k30_2 3 (seqQ (X30 n) p30_3 (blkQ (X30 n) 1 k30_0 2 (seqQ (X30 n) p30_2 (lpQ (X30 n) k30_0 0 p30_1 nx540 (blkQ (X30 n) 0 k30_1 0 (seqQ (X30 n) p30_0 (fnQ (X30 n).E.T (resOf Proofs.Tryd.prog 30) (.tuple [(eL e81) o.1, eI o.2]))))))))))))))) .normal ⟨Zs8 a0 v670 v533 v534 ((dB v671)::(dB false)::(dI v672)::(dI v673)::q40 (q40 (q40 (q40 (q40 (q28 [])))))), (dd 3 [(appO 2 (List.map e81 v670))])⟩ := by
                  intro v670 v671 v672 v673  h
                  unfold f30_j10 at h
                  refine sqQ.n ⟨Zs8 a0 v670 v533 v534 ((dB v671)::(dB false)::(dI v672)::(dI v673)::q40 (q40 (q40 (q40 (q40 (q28 [])))))), (dd 3 [(appO 2 (List.map e81 v670))])⟩ (by generalize v670 = z0; cases z0 <;> (as_aux_lemma => kernel_rfl)) ?_
                  exact J30j648 v670 v533 v671 v672 v673  h
                 refine Wq.cd h k30_2 3 (fun h => ?_) (fun h => ?_)
                 ·refine Wq.rg (Oq.sg 1 1 (Oq.dn (sqQ.n ⟨Zs8 a0 v532 v533 v534 ((dB true)::(dB false)::(dI v563)::(dI v564)::q40 (q40 (q40 (q40 (q40 (q28 [])))))), (dd 3 [(appO 2 (List.map e81 v532))])⟩ (by generalize v532 = z0; cases z0 <;> (as_aux_lemma => kernel_rfl)) ?_)))
                  exact J30j674 v532 true v563 v564  h
                 ·refine Wq.sq (Wq.rg (Oq.sg 3 3 ?_))
                  refine Ops.hv (fun KQ => ∀ (d677 d678 : D) (v679 v680 : Bool), f30_r23 m a0 v532 v533 v534 v535 v563 v564 v680 = some sx545 → KQ 6 ⟨Zs0 a0 v532 v533 v534 v535 v563 v564 v565 v536 v593 v592 d590 d591 (decide (v534 > 0)) (v564 == 91) (v564 == 40) (q5 ((dB v641)::(dI v564)::(dB v630)::(dB v630)::d628::d629::(dB v640)::(dB v640)::d635::d636::d637::d638::d639::(dB v641)::q2 ((dB v668)::(dI v564)::(dB v653)::(dB v653)::d651::d652::(dB v660)::(dB v660)::d658::d659::(dB v667)::(dB v667)::d665::d666::(dB v668)::q1 ((dI v564)::(dB v679)::(dB v679)::d677::d678::(dB v680)::q40 (q40 (q34 [])))))), [.dead, .dead, (appO 2 (List.map e81 v532))]⟩) ?_ fun J30j681 => ?_
                  ·intro d677 d678 v679 v680 h
                   unfold f30_r23 at h
                   refine Oq.sg 1 7 ?_
                   refine Ops.hv (fun KQ => ∀ (d684 d685 : D) (v686 v687 : Bool), f30_r22 m a0 v532 v533 v534 v535 v563 v564 v687 = some sx545 → KQ 10 ⟨Zs0 a0 v532 v533 v534 v535 v563 v564 v565 v536 v593 v592 d590 d591 (decide (v534 > 0)) (v564 == 91) (v564 == 40) (q5 ((dB v641)::(dI v564)::(dB v630)::(dB v630)::d628::d629::(dB v640)::(dB v640)::d635::d636::d637::d638::d639::(dB v641)::q2 ((dB v668)::(dI v564)::(dB v653)::(dB v653)::d651::d652::(dB v660)::(dB v660)::d658::d659::(dB v667)::(dB v667)::d665::d666::(dB v668)::q1 ((dI v564)::(dB v679)::(dB v679)::d677::d678::(dB v686)::(dB v686)::d684::d685::(dB v687)::q40 (q40 (q30 [])))))), [.dead, .dead, (appO 2 (List.map e81 v532))]⟩) ?_ fun J30j688 => ?_
                   ·intro d684 d685 v686 v687 h
                    unfold f30_r22 at h
                    refine Oq.sg 1 11 ?_
                    refine Ops.hv (fun KQ => ∀ (d691 d692 : D) (v693 v694 : Bool), f30_r21 m a0 v532 v533 v534 v535 v563 v564 v694 = some sx545 → KQ 14 ⟨Zs0 a0 v532 v533 v534 v535 v563 v564 v565 v536 v593 v592 d590 d591 (decide (v534 > 0)) (v564 == 91) (v564 == 40) (q5 ((dB v641)::(dI v564)::(dB v630)::(dB v630)::d628::d629::(dB v640)::(dB v640)::d635::d636::d637::d638::d639::(dB v641)::q2 ((dB v668)::(dI v564)::(dB v653)::(dB v653)::d651::d652::(dB v660)::(dB v660)::d658::d659::(dB v667)::(dB v667)::d665::d666::(dB v668)::q1 ((dI v564)::(dB v679)::(dB v679)::d677::d678::(dB v686)::(dB v686)::d684::d685::(dB v693)::(dB v693)::d691::d692::(dB v694)::q40 (q40 (q26 [])))))), [.dead, .dead, (appO 2 (List.map e81 v532))]⟩) ?_ fun J30j695 => ?_
                    ·intro d691 d692 v693 v694 h
                     unfold f30_r21 at h
                     refine Oq.sg 1 15 (Oq.dn (seqQ.n ?_))
                     have J30j699 : ∀ (v696 : (List S81)) (v697 v698 : Int) , f30_j11 m v533 v534 v535 v696 v697 v698 = some sx545 → (sqQ (X30 n) k30_2 3 (sqQ (X30 n) k30_2 3 (sqQ (X30 n) k30_2 3 (sqQ (X30 n) k30_2 3 (sqQ (X30 n) k30_2 3 (sqQ (X30 n) k30_2 3 (sqQ (X30 n) k30_2 3 (blkQ (X30 n) 2 k30_2 3 (seqQ (X30 n) p30_3 (blkQ (X30 n) 1 k30_0 2 (seqQ (X30 n) p30_2 (lpQ (X30 n) k30_0 0 p30_1 nx540 (blkQ (X30 n) 0 k30_1 0 (seqQ (X30 n) p30_0 (fnQ (X30 n).E.T (resOf Proofs.Tryd.prog 30) (.tuple [(eL e81) o.1, eI o.2])))))))))))))))) .normal ⟨Zs8 a0 v696 v533 v534 ((dB v535)::(dB false)::(dI v697)::(dI v698)::q40 (q40 (q40 (q40 (q40 (q28 [])))))), (dd 3 [(appO 2 (List.map e81 v696))])⟩ := by
                      intro v696 v697 v698  h
                      unfold f30_j11 at h
                      refine sqQ.n ⟨Zs8 a0 v696 v533 v534 ((dB v535)::(dB false)::(dI v697)::(dI v698)::q40 (q40 (q40 (q40 (q40 (q28 [])))))), (dd 3 [(appO 2 (List.map e81 v696))])⟩ (by generalize v696 = z0; cases z0 <;> (as_aux_lemma => kernel_rfl)) ?_
                      exact J30j674 v696 v535 v697 v698  h
                     refine Wq.cd h k30_2 3 (fun h => ?_) (fun h => ?_)
                     ·refine Wq.sk (sqQ.n ⟨Zs8 a0 v532 v533 v534 ((dB v535)::(dB false)::(dI v563)::(dI v564)::q40 (q40 (q40 (q40 (q40 (q28 [])))))), (dd 3 [(appO 2 (List.map e81 v532))])⟩ (by generalize v532 = z0; cases z0 <;> (as_aux_lemma => kernel_rfl)) ?_)
                      exact J30j699 v532 v563 v564  h
                     ·refine Wq.sq (Wq.rg (Oq.sg 3 3 ?_))
                      refine Ops.hv (fun KQ => ∀ (d702 d703 : D) (v704 v705 : Bool), f30_r20 m a0 v532 v533 v534 v535 v563 v705 = some sx545 → KQ 6 ⟨Zs0 a0 v532 v533 v534 v535 v563 v564 v565 v536 v593 v592 d590 d591 (decide (v534 > 0)) (v564 == 91) (v564 == 40) (q5 ((dB v641)::(dI v564)::(dB v630)::(dB v630)::d628::d629::(dB v640)::(dB v640)::d635::d636::d637::d638::d639::(dB v641)::q2 ((dB v668)::(dI v564)::(dB v653)::(dB v653)::d651::d652::(dB v660)::(dB v660)::d658::d659::(dB v667)::(dB v667)::d665::d666::(dB v668)::(dB v694)::(dI v564)::(dB v679)::(dB v679)::d677::d678::(dB v686)::(dB v686)::d684::d685::(dB v693)::(dB v693)::d691::d692::(dB v694)::q1 ((dI v564)::(dB v704)::(dB v704)::d702::d703::(dB v705)::q40 (q40 (q19 [])))))), [.dead, .dead, (appO 2 (List.map e81 v532))]⟩) ?_ fun J30j706 => ?_
                      ·intro d702 d703 v704 v705 h
                       unfold f30_r20 at h
                       refine Oq.sg 1 7 (Oq.dn (seqQ.n ?_))
                       refine Wq.cd h k30_2 3 (fun h => ?_) (fun h => ?_)
                       ·refine Wq.sq (Wq.rg (Oq.sg 3 3 (Oq.dn (seqQ.n (Wq.sq (Wq.sq (Wq.rg (Oq.sg 2 2 ?_))))))))
                        refine Ops.on 3 (fun h0 e0 => (len_r (T := T) h0 22 3 .plain eI a0 (by as_aux_lemma => kernel_rfl))) ?_
                        refine Oq.sg 2 5 ?_
                        refine Ops.hv (fun KQ => ∀ (d709 d710 d711 d712 d713 : D) (v714 v715 : Bool), f30_r19 m a0 v532 v533 v534 v535 v563 v715 = some sx545 → KQ 11 ⟨Zs5 a0 v532 v533 v534 v535 v563 v564 v565 v536 (w64 (v563 + 1)) v593 v592 d590 d591 (decide (v534 > 0)) (v564 == 91) (v564 == 40) v641 v630 d628 d629 v640 d635 d636 d637 d638 d639 v668 v653 d651 d652 v660 d658 d659 v667 d665 d666 v694 v679 d677 d678 v686 d684 d685 v693 d691 d692 v705 v704 d702 d703 (a0.length : Int) v714 (d709::d710::d711::d712::d713::(dB v715)::q40 (q40 (q6 []))), [.dead, .dead, (appO 2 (List.map e81 v532))]⟩) ?_ fun J30j716 => ?_
                        ·intro d709 d710 d711 d712 d713 v714 v715 h
                         unfold f30_r19 at h
                         refine Oq.sg 1 12 ?_
                         refine Ops.hv (fun KQ => ∀ (d719 d720 d721 d722 d723 : D) (v724 v725 : Bool), f30_r18 m a0 v532 v533 v534 v535 v563 v725 = some sx545 → KQ 18 ⟨Zs5 a0 v532 v533 v534 v535 v563 v564 v565 v536 (w64 (v563 + 1)) v593 v592 d590 d591 (decide (v534 > 0)) (v564 == 91) (v564 == 40) v641 v630 d628 d629 v640 d635 d636 d637 d638 d639 v668 v653 d651 d652 v660 d658 d659 v667 d665 d666 v694 v679 d677 d678 v686 d684 d685 v693 d691 d692 v705 v704 d702 d703 (a0.length : Int) v714 (d709::d710::d711::d712::d713::(dB v724)::(dB v724)::d719::d720::d721::d722::d723::(dB v725)::q40 (q39 [])), [.dead, .dead, (appO 2 (List.map e81 v532))]⟩) ?_ fun J30j726 => ?_
                         ·intro d719 d720 d721 d722 d723 v724 v725 h
                          unfold f30_r18 at h
                          refine Oq.dn (seqQ.n ?_)
                          refine Wq.cd h k30_3 3 (fun h => ?_) (fun h => ?_)
                          ·refine Wq.sq (Wq.rg (Oq.sg 3 3 (Oq.dn (seqQ.n (Wq.rt (sqQ.r (seqQ.r (sqQ.r (sqQ.r (sqQ.r (sqQ.r (sqQ.r (sqQ.r (sqQ.r (sqQ.r (sqQ.r (blkQ.r (seqQ.r (blkQ.r (seqQ.r ?_))))))))))))))))))))
                           cases h
                           refine lpQ.r (blkQ.r ?_)
                           exact hrx542 _ hsx546 _ (RetOk.forget k30_0 (by as_aux_lemma => kernel_rfl) (RetOk.mk' (.v (.tuple [(.sl .nil (List.map e81 [])), (vI (w64 (v563 + 1)))])) (by as_aux_lemma => kernel_rfl) (by as_aux_lemma => kernel_rfl)))
                          ·refine Wq.sk (sqQ.n ⟨Zs8 a0 v532 v533 v534 ((dB v535)::(dB false)::(dI v563)::q3 ((dI (w64 (v563 + 1)))::q40 (q40 (q40 (q40 (q40 (q25 []))))))), (dd 3 [(appO 2 (List.map e81 v532))])⟩ (by generalize v532 = z0; cases z0 <;> (as_aux_lemma => kernel_rfl)) (seqQ.n (Wq.sq (Wq.rg (Oq.sg 3 3 (Oq.dn (seqQ.n (Wq.sq (Wq.sq (Wq.rg (Oq.sg 2 2 ?_)))))))))))
                           refine Ops.on 3 (fun h0 e0 => (len_r (T := T) h0 22 3 .plain eI a0 (by as_aux_lemma => kernel_rfl))) ?_
                           refine Oq.sg 2 5 ?_
                           refine Ops.hv (fun KQ => ∀ (d729 d730 d731 d732 d733 : D) (v734 v735 : Bool), f30_r17 m a0 v532 v533 v534 v535 v563 v735 = some sx545 → KQ 11 ⟨Zs8 a0 v532 v533 v534 ((dB v535)::(dB false)::(dI v563)::q3 ((dI (w64 (w64 (v563 + 1) + 1)))::q40 (q40 (q40 (q27 ((dI (w64 (v563 + 1)))::(dI (w64 (w64 (v563 + 1) + 1)))::(dI (w64 (w64 (v563 + 1) + 1)))::(dP eI a0)::(dI (a0.length : Int))::(dB v734)::(dB v734)::d729::d730::d731::d732::d733::(dB v735)::q40 (q25 []))))))), (dd 3 [(appO 2 (List.map e81 v532))])⟩) ?_ fun J30j736 => ?_
                           ·intro d729 d730 d731 d732 d733 v734 v735 h
                            unfold f30_r17 at h
                            refine Oq.dn (seqQ.n ?_)
                            refine Wq.cd h k30_3 4 (fun h => ?_) (fun h => ?_)
                            ·refine Wq.sq (Wq.rg (Oq.sg 3 3 (Oq.dn (seqQ.n (Wq.rt (sqQ.r (seqQ.r (sqQ.r (sqQ.r (sqQ.r (sqQ.r (sqQ.r (sqQ.r (sqQ.r (sqQ.r (sqQ.r (blkQ.r (seqQ.r (blkQ.r (seqQ.r ?_))))))))))))))))))))
                             cases h
                             refine lpQ.r (blkQ.r ?_)
                             exact hrx542 _ hsx546 _ (RetOk.forget k30_0 (by as_aux_lemma => kernel_rfl) (RetOk.mk' (.v (.tuple [(.sl .nil (List.map e81 [])), (vI (w64 (w64 (v563 + 1) + 1)))])) (by as_aux_lemma => kernel_rfl) (by as_aux_lemma => kernel_rfl)))
                            ·refine Wq.sk (sqQ.n ⟨Zs50 a0 v532 v533 ((dI v534)::(dB v535)::(dB false)::(dI v563)::q3 ((dI (w64 (w64 (v563 + 1) + 1)))::q40 (q40 (q40 (q40 (q40 (q25 []))))))), (dd 4 [(appO 2 (List.map e81 v532))])⟩ (by generalize v532 = z0; cases z0 <;> (as_aux_lemma => kernel_rfl)) (seqQ.n (Wq.sq (Wq.rg (Oq.sg 3 3 (Oq.dn (seqQ.n (Wq.sq (Wq.sq (Wq.rg (Oq.sg 2 2 ?_)))))))))))
                             refine Ops.on 3 (fun h0 e0 => (len_r (T := T) h0 22 3 .plain eI a0 (by as_aux_lemma => kernel_rfl))) ?_
                             refine Oq.sg 2 5 ?_
                             refine Ops.hv (fun KQ => ∀ (d739 d740 d741 d742 d743 : D) (v744 v745 : Bool), f30_r16 m a0 v532 v533 v534 v535 v563 v745 = some sx545 → KQ 11 ⟨Zs17 a0 v532 v533 v534 v535 v563 (w64 (w64 (w64 (v563 + 1) + 1) + 1)) (w64 (w64 (v563 + 1) + 1)) (a0.length : Int) v744 (d739::d740::d741::d742::d743::(dB v745)::q40 (q11 [])), (dd 4 [(appO 2 (List.map e81 v532))])⟩) ?_ fun J30j746 => ?_
                             ·intro d739 d740 d741 d742 d743 v744 v745 h
                              unfold f30_r16 at h
                              refine Oq.sg 1 12 ?_
                              refine Ops.hv (fun KQ => ∀ (d749 d750 d751 d752 d753 : D) (v754 v755 : Bool), f30_r15 m a0 v532 v533 v534 v535 v563 v755 = some sx545 → KQ 18 ⟨Zs17 a0 v532 v533 v534 v535 v563 (w64 (w64 (w64 (v563 + 1) + 1) + 1)) (w64 (w64 (v563 + 1) + 1)) (a0.length : Int) v744 (d739::d740::d741::d742::d743::(dB v754)::(dB v754)::d749::d750::d751::d752::d753::(dB v755)::q40 (q4 [])), (dd 4 [(appO 2 (List.map e81 v532))])⟩) ?_ fun J30j756 => ?_
                              ·intro d749 d750 d751 d752 d753 v754 v755 h
                               unfold f30_r15 at h
                               refine Oq.dn (seqQ.n ?_)
                               have J30j758 : ∀ (v757 : Int) , f30_j14 m a0 v532 v533 v534 v535 v563 v757 = some sx545 → (seqQ (X30 n) p30_5 (sqQ (X30 n) k30_2 3 (sqQ (X30 n) k30_2 3 (sqQ (X30 n) k30_2 3 (sqQ (X30 n) k30_2 3 (sqQ (X30 n) k30_2 3 (sqQ (X30 n) k30_2 3 (sqQ (X30 n) k30_2 3 (sqQ (X30 n) k30_2 3 (sqQ (X30 n) k30_2 3 (blkQ (X30 n) 2 k30_2 3 (seqQ (X30 n) p30_3 (blkQ (X30 n) 1 k30_0 2 (seqQ (X30 n) p30_2 (lpQ (X30 n) k30_0 0 p30_1 nx540 (blkQ (X30 n) 0 k30_1 0 (seqQ (X30 n) p30_0 (fnQ (X30 n).E.T (resOf Proofs.Tryd.prog 30) (.tuple [(eL e81) o.1, eI o.2]))))))))))))))))))) .normal ⟨Zs26 a0 v532 v533 v534 v535 v563 v757 (q40 (q25 [])), (dd 5 [(appO 2 (List.map e81 v532))])⟩ := by
                                intro v757  h
                                unfold f30_j14 at h
                                refine seqQ.n (Wq.sq (Wq.sq (Wq.rg (Oq.sg 2 2 ?_))))
                                refine Ops.on 3 (fun h0 e0 => (len_r (T := T) h0 22 3 .plain eI a0 (by as_aux_lemma => kernel_rfl))) ?_
                                refine Oq.sg 2 5 ?_
                                refine Ops.hv (fun KQ => ∀ (d761 d762 d763 d764 d765 : D) (v766 v767 : Bool), f30_r13 m a0 v532 v533 v534 v535 v563 v757 v767 = some sx545 → KQ 11 ⟨Zs26 a0 v532 v533 v534 v535 v563 v757 (q23 ((dI v757)::(dP eI a0)::(dI (a0.length : Int))::(dB v766)::(dB v766)::d761::d762::d763::d764::d765::(dB v767)::q31 [])), (dd 5 [(appO 2 (List.map e81 v532))])⟩) ?_ fun J30j768 => ?_
                                ·intro d761 d762 d763 d764 d765 v766 v767 h
                                 unfold f30_r13 at h
                                 refine Oq.dn (seqQ.n ?_)
                                 refine Wq.cd h k30_3 6 (fun h => ?_) (fun h => ?_)
                                 ·refine Wq.sq (Wq.rg (Oq.sg 3 3 (Oq.dn (seqQ.n (Wq.rt (sqQ.r (seqQ.r (sqQ.r (sqQ.r (sqQ.r (sqQ.r (sqQ.r (sqQ.r (sqQ.r (sqQ.r (sqQ.r (blkQ.r (seqQ.r (blkQ.r (seqQ.r ?_))))))))))))))))))))
                                  cases h
                                  refine lpQ.r (blkQ.r ?_)
                                  exact hrx542 _ hsx546 _ (RetOk.forget k30_0 (by as_aux_lemma => kernel_rfl) (RetOk.mk' (.v (.tuple [(.sl .nil (List.map e81 [])), (vI v757)])) (by as_aux_lemma => kernel_rfl) (by as_aux_lemma => kernel_rfl)))
                                 ·refine Wq.sk (sqQ.n ⟨(dP eI a0)::q1 ((appD 6 (List.map e81 v532))::(dI 0)::(dI v533)::(dI v534)::(dB v535)::(dB false)::(dI v563)::q3 ((dI v757)::q40 (q40 (q40 (q40 (q40 (q25 []))))))), (dd 6 [(appO 2 (List.map e81 v532))])⟩ (by generalize v532 = z0; cases z0 <;> (as_aux_lemma => kernel_rfl)) (seqQ.n (Wq.sq (Wq.bk 3 k30_0 7 ?_))))
                                  have hLx784 : ∀ (kx774 : Nat) (v771 : (List S81)) (v772 : Int)  (ox773 : ((List S81) × Int) ⊕ ((List S81) × Int)), iter (fun (y : (List S81) × Int) => f30_B12 m a0 v757 y.1 y.2) kx774 (v771, v772) = some ox773 → ∀ nx775, kx774 ≤ nx775 → (∀ r, ox773 = .inl r → ∀ σ, RetOk (X30 n) (resOf Proofs.Tryd.prog 30) (.tuple [(eL e81) r.1, eI r.2]) σ → (seqQ (X30 n) p30_6 (sqQ (X30 n) k30_2 3 (sqQ (X30 n) k30_2 3 (sqQ (X30 n) k30_2 3 (sqQ (X30 n) k30_2 3 (sqQ (X30 n) k30_2 3 (sqQ (X30 n) k30_2 3 (sqQ (X30 n) k30_2 3 (sqQ (X30 n) k30_2 3 (sqQ (X30 n) k30_2 3 (blkQ (X30 n) 2 k30_2 3 (seqQ (X30 n) p30_3 (blkQ (X30 n) 1 k30_0 2 (seqQ (X30 n) p30_2 (lpQ (X30 n) k30_0 0 p30_1 nx540 (blkQ (X30 n) 0 k30_1 0 (seqQ (X30 n) p30_0 (fnQ (X30 n).E.T (resOf Proofs.Tryd.prog 30) (.tuple [(eL e81) o.1, eI o.2]))))))))))))))))))) .ret σ) → (∀ (y : (List S81) × Int) , ox773 = .inr y → (seqQ (X30 n) p30_6 (sqQ (X30 n) k30_2 3 (sqQ (X30 n) k30_2 3 (sqQ (X30 n) k30_2 3 (sqQ (X30 n) k30_2 3 (sqQ (X30 n) k30_2 3 (sqQ (X30 n) k30_2 3 (sqQ (X30 n) k30_2 3 (sqQ (X30 n) k30_2 3 (sqQ (X30 n) k30_2 3 (blkQ (X30 n) 2 k30_2 3 (seqQ (X30 n) p30_3 (blkQ (X30 n) 1 k30_0 2 (seqQ (X30 n) p30_2 (lpQ (X30 n) k30_0 0 p30_1 nx540 (blkQ (X30 n) 0 k30_1 0 (seqQ (X30 n) p30_0 (fnQ (X30 n).E.T (resOf Proofs.Tryd.prog 30) (.tuple [(eL e81) o.1, eI o.2]))))))))))))))))))) .normal ⟨Zs34 a0 y.1 v533 v534 v535 y.2 (q40 (q40 (q40 (q40 (q40 (q29 [])))))), (dd 7 [(appO 2 (List.map e81 y.1))])⟩) → Lp (X30 n) k30_3 7 p30_7 nx775 ⟨Zs34 a0 v771 v533 v534 v535 v772 (q3 ((dI v757)::q40 (q40 (q40 (q40 (q40 (q25 []))))))), (dd 7 [(appO 2 (List.map e81 v771))])⟩ (blkQ (X30 n) 3 k30_0 7 (seqQ (X30 n) p30_6 (sqQ (X30 n) k30_2 3 (sqQ (X30 n) k30_2 3 (sqQ (X30 n) k30_2 3 (sqQ (X30 n) k30_2 3 (sqQ (X30 n) k30_2 3 (sqQ (X30 n) k30_2 3 (sqQ (X30 n) k30_2 3 (sqQ (X30 n) k30_2 3 (sqQ (X30 n) k30_2 3 (blkQ (X30 n) 2 k30_2 3 (seqQ (X30 n) p30_3 (blkQ (X30 n) 1 k30_0 2 (seqQ (X30 n) p30_2 (lpQ (X30 n) k30_0 0 p30_1 nx540 (blkQ (X30 n) 0 k30_1 0 (seqQ (X30 n) p30_0 (fnQ (X30 n).E.T (resOf Proofs.Tryd.prog 30) (.tuple [(eL e81) o.1, eI o.2])))))))))))))))))))) := by
                                   intro kx774
                                   induction kx774 with
                                   | zero => intro v771 v772  ox773 h; exact (iter_zero h).elim
                                   | succ kx774 ihx776 =>
                                    intro v771 v772  ox773 h nx775 hnx779 hrx777 hxx778
                                    obtain ⟨nx775, rfl⟩ : ∃ q, nx775 = q + 1 := ⟨nx775 - 1, by omega⟩
                                    obtain ⟨sx780, h, hsx781⟩ := iter_some h
                                    have h : f30_B12 m a0 v757 v771 v772 = some sx780 := h
                                    unfold f30_B12 at h
                                    refine Lp.succ (Wq.sq (Wq.sq (Wq.rg (Oq.sg 3 3 (Oq.dn (seqQ.n ?_))))))
                                    refine Wq.cd h k30_3 8 (fun h => ?_) (fun h => ?_)
                                    ·refine Wq.sk (sqQ.n ⟨(dP eI a0)::q1 ((appD 8 (List.map e81 v771))::(dI 0)::(dI v533)::(dI v534)::(dB v535)::(dB false)::(dI v772)::q3 ((dI v757)::q40 (q40 (q40 (q40 (q40 (q25 []))))))), (dd 8 [(appO 2 (List.map e81 v771))])⟩ (by generalize v771 = z0; cases z0 <;> (as_aux_lemma => kernel_rfl)) (seqQ.n (Wq.sq (Wq.bk 4 k30_3 9 (Wq.rg (Oq.sg 3 3 ?_))))))
                                     obtain ⟨v782, ev782, h⟩ := bnd_some h
                                     refine Ops.on 4 (fun h0 e0 => (ix_r (T := T) h0 22 3 1 .plain eI a0 v772 v782 ev782 (by as_aux_lemma => kernel_rfl) (by as_aux_lemma => kernel_rfl) (fun _ => rfl))) ?_
                                     refine Oq.sg 3 7 ?_
                                     obtain ⟨v783, ev783, h⟩ := bnd_some h
                                     refine Ops.on 8 (fun h0 e0 => (app_r (T := T) (g := .nil) h0 62 82 8 2 ti82 .nonfull e81 v771 ([(⟨v782, true⟩ : S81)]) v783 ev783 (by as_aux_lemma => kernel_rfl) (by as_aux_lemma => kernel_rfl) (by as_aux_lemma => kernel_rfl) (by as_aux_lemma => kernel_rfl) (fun _ => rfl) (hq_of e0 (by as_aux_lemma => kernel_rfl)))) ?_
                                     refine Oq.sg 1 9 (Oq.dn (blkQ.n ⟨(dP eI a0)::q1 ((appD 9 (List.map e81 v783))::(dI 0)::(dI v533)::(dI v534)::(dB v535)::(dB false)::(dI v772)::q3 ((dI v757)::q40 (q40 (q40 (q40 (q40 (q25 []))))))), (dd 9 [(appO 2 (List.map e81 v783))])⟩ (by generalize v783 = z0; cases z0 <;> (as_aux_lemma => kernel_rfl)) (seqQ.n (Wq.rg (Oq.sg 3 3 (Oq.dn (lpQ.n ⟨Zs34 a0 v783 v533 v534 v535 (w64 (v772 + 1)) (q3 ((dI v757)::q40 (q40 (q40 (q40 (q40 (q25 []))))))), (dd 7 [(appO 2 (List.map e81 v783))])⟩ (by generalize v783 = z0; cases z0 <;> (as_aux_lemma => kernel_rfl)) ?_)))))))
                                     cases h
                                     exact ihx776 v783 (w64 (v772 + 1))  _ hsx781 _ (by omega) hrx777 hxx778
                                    ·refine Wq.ex 3 (sqQ.x (seqQ.x ?_))
                                     cases h
                                     refine lpQ.x (blkQ.x ⟨Zs34 a0 v771 v533 v534 v535 v772 (q40 (q40 (q40 (q40 (q40 (q29 [])))))), (dd 7 [(appO 2 (List.map e81 v771))])⟩ (by generalize v771 = z0; cases z0 <;> (as_aux_lemma => kernel_rfl)) ?_)
                                     exact hxx778 (v771, v772)  hsx781
                                  refine Wp.loop' k30_3 7 (by as_aux_lemma => kernel_rfl) ⟨Zs34 a0 v532 v533 v534 v535 v563 (q3 ((dI v757)::q40 (q40 (q40 (q40 (q40 (q25 []))))))), (dd 7 [(appO 2 (List.map e81 v532))])⟩ (by generalize v532 = z0; cases z0 <;> (as_aux_lemma => kernel_rfl)) ?_
                                  rcases brk_some h with ⟨r786, er786, h⟩ | ⟨y785, ey785, h⟩
                                  ·refine hLx784 _ v532 v563  _ er786 n (by omega) (fun r er σ hσ => ?_) (fun y  ey => by cases ey)
                                   cases er
                                   refine seqQ.r (sqQ.r (sqQ.r (sqQ.r (sqQ.r (sqQ.r (sqQ.r (sqQ.r (sqQ.r (sqQ.r (blkQ.r (seqQ.r (blkQ.r (seqQ.r (lpQ.r ?_))))))))))))))
                                   cases h
                                   refine blkQ.r ?_
                                   exact hrx542 _ hsx546 _ (RetOk.forget k30_0 (by as_aux_lemma => kernel_rfl) hσ)
                                  ·refine hLx784 _ v532 v563  _ ey785 n (by omega) (fun r er => by cases er) (fun y  ey => ?_)
                                   cases ey
                                   refine seqQ.n (Wq.rg (Oq.sg 1 1 (Oq.dn (sqQ.n ⟨Zs8 a0 y785.1 v533 v534 ((dB v535)::(dB false)::(dI y785.2)::(dI 125)::q40 (q40 (q40 (q40 (q40 (q28 [])))))), (dd 3 [(appO 2 (List.map e81 y785.1))])⟩ (by generalize y785.1 = z0; cases z0 <;> (as_aux_lemma => kernel_rfl)) (sqQ.n ⟨Zs8 a0 y785.1 v533 v534 ((dB v535)::(dB false)::(dI y785.2)::(dI 125)::q40 (q40 (q40 (q40 (q40 (q28 [])))))), (dd 3 [(appO 2 (List.map e81 y785.1))])⟩ (by generalize y785.1 = z0; cases z0 <;> (as_aux_lemma => kernel_rfl)) ?_)))))
                                   exact J30j699 y785.1 y785.2 125  h
                                obtain ⟨v767, ev767, h⟩ := bnd_some h
                                refine Ops.hv (fun KQ => ∀ v759 : Bool, (cnd v759 (some true) (bnd (idx a0 v757) fun v787 => some (v787 != 125))) = some v767 → KQ 5 ⟨Zs26 a0 v532 v533 v534 v535 v563 v757 (q23 ((dI v757)::(dP eI a0)::(dI (a0.length : Int))::(dB v759)::(dB v759)::q37 [])), (dd 5 [(appO 2 (List.map e81 v532))])⟩) ?_ fun G30g760 => Oq.sx (G30g760 (v757 == (a0.length : Int)) ev767)
                                intro v759 ev767
                                cases v759
                                ·have ev767 := cnd_f ev767
                                 refine Oq.sg 2 7 ?_
                                 obtain ⟨v787, ev787, ev767⟩ := bnd_some ev767
                                 refine Ops.on 8 (fun h0 e0 => (ix_r (T := T) h0 22 3 1 .plain eI a0 v757 v787 ev787 (by as_aux_lemma => kernel_rfl) (by as_aux_lemma => kernel_rfl) (fun _ => rfl))) ?_
                                 refine Oq.sg 3 11 ?_
                                 exact Oq.sx (J30j768 (dP eI a0) (dI v757) (.vptr [(vI v787)]) (dI v787) (dB (v787 != 125)) false (v787 != 125) (some_sub (fun v767 => f30_r13 m a0 v532 v533 v534 v535 v563 v757 v767 = some sx545) ev767 h))
                                ·have ev767 := cnd_t ev767
                                 refine Oq.sg 6 11 ?_
                                 exact Oq.sx (J30j768 U U U U U true true (some_sub (fun v767 => f30_r13 m a0 v532 v533 v534 v535 v563 v757 v767 = some sx545) ev767 h))
                               refine Wq.cd h k30_3 5 (fun h => ?_) (fun h => ?_)
                               ·refine Wq.rg (Oq.sg 3 3 (Oq.dn (sqQ.n ⟨Zs26 a0 v532 v533 v534 v535 v563 (w64 (w64 (w64 (w64 (v563 + 1) + 1) + 1) + 1)) (q40 (q25 [])), (dd 5 [(appO 2 (List.map e81 v532))])⟩ (by generalize v532 = z0; cases z0 <;> (as_aux_lemma => kernel_rfl)) ?_)))
                                exact J30j758 (w64 (w64 (w64 (w64 (v563 + 1) + 1) + 1) + 1))  h
                               ·refine Wq.sk (sqQ.n ⟨Zs26 a0 v532 v533 v534 v535 v563 (w64 (w64 (w64 (v563 + 1) + 1) + 1)) (q40 (q25 [])), (dd 5 [(appO 2 (List.map e81 v532))])⟩ (by generalize v532 = z0; cases z0 <;> (as_aux_lemma => kernel_rfl)) ?_)
                                exact J30j758 (w64 (w64 (w64 (v563 + 1) + 1) + 1))  h
                              obtain ⟨v755, ev755, h⟩ := bnd_some h
                              refine Ops.hv (fun KQ => ∀ v747 : Bool, (cnd v747 (bnd (idx a0 (w64 (w64 (w64 (v563 + 1) + 1) + 1))) fun v788 => some (decide (v788 ≤ 57))) (some false)) = some v755 → KQ 12 ⟨Zs17 a0 v532 v533 v534 v535 v563 (w64 (w64 (w64 (v563 + 1) + 1) + 1)) (w64 (w64 (v563 + 1) + 1)) (a0.length : Int) v744 (d739::d740::d741::d742::d743::(dB v747)::(dB v747)::q40 (q10 [])), (dd 4 [(appO 2 (List.map e81 v532))])⟩) ?_ fun G30g748 => Oq.sx (G30g748 v745 ev755)
                              intro v747 ev755
                              cases v747
                              ·have ev755 := cnd_f ev755
                               refine Oq.sg 6 18 ?_
                               exact Oq.sx (J30j756 U U U U U false false (some_sub (fun v755 => f30_r15 m a0 v532 v533 v534 v535 v563 v755 = some sx545) ev755 h))
                              ·have ev755 := cnd_t ev755
                               refine Oq.sg 2 14 ?_
                               obtain ⟨v788, ev788, ev755⟩ := bnd_some ev755
                               refine Ops.on 15 (fun h0 e0 => (ix_r (T := T) h0 22 3 1 .plain eI a0 (w64 (w64 (w64 (v563 + 1) + 1) + 1)) v788 ev788 (by as_aux_lemma => kernel_rfl) (by as_aux_lemma => kernel_rfl) (fun _ => rfl))) ?_
                               refine Oq.sg 3 18 ?_
                               exact Oq.sx (J30j756 (dP eI a0) (dI (w64 (w64 (w64 (v563 + 1) + 1) + 1))) (.vptr [(vI v788)]) (dI v788) (dB (decide (v788 ≤ 57))) true (decide (v788 ≤ 57)) (some_sub (fun v755 => f30_r15 m a0 v532 v533 v534 v535 v563 v755 = some sx545) ev755 h))
                             obtain ⟨v745, ev745, h⟩ := bnd_some h
                             refine Ops.hv (fun KQ => ∀ v737 : Bool, (cnd v737 (bnd (idx a0 (w64 (w64 (w64 (v563 + 1) + 1) + 1))) fun v789 => some (decide (v789 ≥ 48))) (some false)) = some v745 → KQ 5 ⟨Zs17 a0 v532 v533 v534 v535 v563 (w64 (w64 (w64 (v563 + 1) + 1) + 1)) (w64 (w64 (v563 + 1) + 1)) (a0.length : Int) v737 (q40 (q17 [])), (dd 4 [(appO 2 (List.map e81 v532))])⟩) ?_ fun G30g738 => Oq.sx (G30g738 (decide (w64 (w64 (w64 (v563 + 1) + 1) + 1) < (a0.length : Int))) ev745)
                             intro v737 ev745
                             cases v737
                             ·have ev745 := cnd_f ev745
                              refine Oq.sg 6 11 ?_
                              exact Oq.sx (J30j746 U U U U U false false (some_sub (fun v745 => f30_r16 m a0 v532 v533 v534 v535 v563 v745 = some sx545) ev745 h))
                             ·have ev745 := cnd_t ev745
                              refine Oq.sg 2 7 ?_
                              obtain ⟨v789, ev789, ev745⟩ := bnd_some ev745
                              refine Ops.on 8 (fun h0 e0 => (ix_r (T := T) h0 22 3 1 .plain eI a0 (w64 (w64 (w64 (v563 + 1) + 1) + 1)) v789 ev789 (by as_aux_lemma => kernel_rfl) (by as_aux_lemma => kernel_rfl) (fun _ => rfl))) ?_
                              refine Oq.sg 3 11 ?_
                              exact Oq.sx (J30j746 (dP eI a0) (dI (w64 (w64 (w64 (v563 + 1) + 1) + 1))) (.vptr [(vI v789)]) (dI v789) (dB (decide (v789 ≥ 48))) true (decide (v789 ≥ 48)) (some_sub (fun v745 => f30_r16 m a0 v532 v533 v534 v535 v563 v745 = some sx545) ev745 h))
                           obtain ⟨v735, ev735, h⟩ := bnd_some h
                           refine Ops.hv (fun KQ => ∀ v727 : Bool, (cnd v727 (some true) (bnd (idx a0 (w64 (w64 (v563 + 1) + 1))) fun v790 => some (v790 != 44))) = some v735 → KQ 5 ⟨Zs8 a0 v532 v533 v534 ((dB v535)::(dB false)::(dI v563)::q3 ((dI (w64 (w64 (v563 + 1) + 1)))::q40 (q40 (q40 (q27 ((dI (w64 (v563 + 1)))::(dI (w64 (w64 (v563 + 1) + 1)))::(dI (w64 (w64 (v563 + 1) + 1)))::(dP eI a0)::(dI (a0.length : Int))::(dB v727)::(dB v727)::q40 (q31 []))))))), (dd 3 [(appO 2 (List.map e81 v532))])⟩) ?_ fun G30g728 => Oq.sx (G30g728 ((w64 (w64 (v563 + 1) + 1)) == (a0.length : Int)) ev735)
                           intro v727 ev735
                           cases v727
                           ·have ev735 := cnd_f ev735
                            refine Oq.sg 2 7 ?_
                            obtain ⟨v790, ev790, ev735⟩ := bnd_some ev735
                            refine Ops.on 8 (fun h0 e0 => (ix_r (T := T) h0 22 3 1 .plain eI a0 (w64 (w64 (v563 + 1) + 1)) v790 ev790 (by as_aux_lemma => kernel_rfl) (by as_aux_lemma => kernel_rfl) (fun _ => rfl))) ?_
                            refine Oq.sg 3 11 ?_
                            exact Oq.sx (J30j736 (dP eI a0) (dI (w64 (w64 (v563 + 1) + 1))) (.vptr [(vI v790)]) (dI v790) (dB (v790 != 44)) false (v790 != 44) (some_sub (fun v735 => f30_r17 m a0 v532 v533 v534 v535 v563 v735 = some sx545) ev735 h))
                           ·have ev735 := cnd_t ev735
                            refine Oq.sg 6 11 ?_
                            exact Oq.sx (J30j736 U U U U U true true (some_sub (fun v735 => f30_r17 m a0 v532 v533 v534 v535 v563 v735 = some sx545) ev735 h))
                         obtain ⟨v725, ev725, h⟩ := bnd_some h
                         refine Ops.hv (fun KQ => ∀ v717 : Bool, (cnd v717 (some true) (bnd (idx a0 (w64 (v563 + 1))) fun v791 => some (decide (v791 > 57)))) = some v725 → KQ 12 ⟨Zs5 a0 v532 v533 v534 v535 v563 v564 v565 v536 (w64 (v563 + 1)) v593 v592 d590 d591 (decide (v534 > 0)) (v564 == 91) (v564 == 40) v641 v630 d628 d629 v640 d635 d636 d637 d638 d639 v668 v653 d651 d652 v660 d658 d659 v667 d665 d666 v694 v679 d677 d678 v686 d684 d685 v693 d691 d692 v705 v704 d702 d703 (a0.length : Int) v714 (d709::d710::d711::d712::d713::(dB v717)::(dB v717)::q40 (q40 (q5 []))), [.dead, .dead, (appO 2 (List.map e81 v532))]⟩) ?_ fun G30g718 => Oq.sx (G30g718 v715 ev725)
                         intro v717 ev725
                         cases v717
                         ·have ev725 := cnd_f ev725
                          refine Oq.sg 2 14 ?_
                          obtain ⟨v791, ev791, ev725⟩ := bnd_some ev725
                          refine Ops.on 15 (fun h0 e0 => (ix_r (T := T) h0 22 3 1 .plain eI a0 (w64 (v563 + 1)) v791 ev791 (by as_aux_lemma => kernel_rfl) (by as_aux_lemma => kernel_rfl) (fun _ => rfl))) ?_
                          refine Oq.sg 3 18 ?_
                          exact Oq.sx (J30j726 (dP eI a0) (dI (w64 (v563 + 1))) (.vptr [(vI v791)]) (dI v791) (dB (decide (v791 > 57))) false (decide (v791 > 57)) (some_sub (fun v725 => f30_r18 m a0 v532 v533 v534 v535 v563 v725 = some sx545) ev725 h))
                         ·have ev725 := cnd_t ev725
                          refine Oq.sg 6 18 ?_
                          exact Oq.sx (J30j726 U U U U U true true (some_sub (fun v725 => f30_r18 m a0 v532 v533 v534 v535 v563 v725 = some sx545) ev725 h))
                        obtain ⟨v715, ev715, h⟩ := bnd_some h
                        refine Ops.hv (fun KQ => ∀ v707 : Bool, (cnd v707 (some true) (bnd (idx a0 (w64 (v563 + 1))) fun v792 => some (decide (v792 < 48)))) = some v715 → KQ 5 ⟨Zs5 a0 v532 v533 v534 v535 v563 v564 v565 v536 (w64 (v563 + 1)) v593 v592 d590 d591 (decide (v534 > 0)) (v564 == 91) (v564 == 40) v641 v630 d628 d629 v640 d635 d636 d637 d638 d639 v668 v653 d651 d652 v660 d658 d659 v667 d665 d666 v694 v679 d677 d678 v686 d684 d685 v693 d691 d692 v705 v704 d702 d703 (a0.length : Int) v707 (q40 (q40 (q12 []))), [.dead, .dead, (appO 2 (List.map e81 v532))]⟩) ?_ fun G30g708 => Oq.sx (G30g708 ((w64 (v563 + 1)) == (a0.length : Int)) ev715)
                        intro v707 ev715
                        cases v707
                        ·have ev715 := cnd_f ev715
                         refine Oq.sg 2 7 ?_
                         obtain ⟨v792, ev792, ev715⟩ := bnd_some ev715
                         refine Ops.on 8 (fun h0 e0 => (ix_r (T := T) h0 22 3 1 .plain eI a0 (w64 (v563 + 1)) v792 ev792 (by as_aux_lemma => kernel_rfl) (by as_aux_lemma => kernel_rfl) (fun _ => rfl))) ?_
                         refine Oq.sg 3 11 ?_
                         exact Oq.sx (J30j716 (dP eI a0) (dI (w64 (v563 + 1))) (.vptr [(vI v792)]) (dI v792) (dB (decide (v792 < 48))) false (decide (v792 < 48)) (some_sub (fun v715 => f30_r19 m a0 v532 v533 v534 v535 v563 v715 = some sx545) ev715 h))
                        ·have ev715 := cnd_t ev715
                         refine Oq.sg 6 11 ?_
                         exact Oq.sx (J30j716 U U U U U true true (some_sub (fun v715 => f30_r19 m a0 v532 v533 v534 v535 v563 v715 = some sx545) ev715 h))
                       ·refine Wq.sq (Wq.rg (Oq.sg 3 3 (Oq.dn (seqQ.n (Wq.rt (sqQ.r (sqQ.r (sqQ.r (sqQ.r (sqQ.r (sqQ.r (sqQ.r (sqQ.r (sqQ.r (blkQ.r (seqQ.r (blkQ.r (seqQ.r ?_))))))))))))))))))
                        cases h
                        refine lpQ.r (blkQ.r ?_)
                        exact hrx542 _ hsx546 _ (RetOk.forget k30_0 (by as_aux_lemma => kernel_rfl) (RetOk.mk' (.v (.tuple [(.sl .nil (List.map e81 [])), (vI v563)])) (by as_aux_lemma => kernel_rfl) (by as_aux_lemma => kernel_rfl)))
                      refine Ops.hv (fun KQ => ∀ v700 : Bool, f30_r20 m a0 v532 v533 v534 v535 v563 (v700 && (!v535)) = some sx545 → KQ 3 ⟨Zs0 a0 v532 v533 v534 v535 v563 v564 v565 v536 v593 v592 d590 d591 (decide (v534 > 0)) (v564 == 91) (v564 == 40) (q5 ((dB v641)::(dI v564)::(dB v630)::(dB v630)::d628::d629::(dB v640)::(dB v640)::d635::d636::d637::d638::d639::(dB v641)::q2 ((dB v668)::(dI v564)::(dB v653)::(dB v653)::d651::d652::(dB v660)::(dB v660)::d658::d659::(dB v667)::(dB v667)::d665::d666::(dB v668)::(dB v694)::(dI v564)::(dB v679)::(dB v679)::d677::d678::(dB v686)::(dB v686)::d684::d685::(dB v693)::(dB v693)::d691::d692::(dB v694)::q1 ((dI v564)::(dB v700)::(dB v700)::q40 (q40 (q22 [])))))), [.dead, .dead, (appO 2 (List.map e81 v532))]⟩) ?_ fun G30g701 => Oq.sx (G30g701 (v564 == 123) h)
                      intro v700 h
                      cases v700
                      ·refine Oq.sg 3 6 ?_
                       exact Oq.sx (J30j706 U U false false h)
                      ·refine Oq.sg 3 6 ?_
                       exact Oq.sx (J30j706 (dB v535) (dB (!v535)) true (!v535) h)
                    refine Ops.hv (fun KQ => ∀ v689 : Bool, f30_r21 m a0 v532 v533 v534 v535 v563 v564 (v689 && (!v535)) = some sx545 → KQ 11 ⟨Zs0 a0 v532 v533 v534 v535 v563 v564 v565 v536 v593 v592 d590 d591 (decide (v534 > 0)) (v564 == 91) (v564 == 40) (q5 ((dB v641)::(dI v564)::(dB v630)::(dB v630)::d628::d629::(dB v640)::(dB v640)::d635::d636::d637::d638::d639::(dB v641)::q2 ((dB v668)::(dI v564)::(dB v653)::(dB v653)::d651::d652::(dB v660)::(dB v660)::d658::d659::(dB v667)::(dB v667)::d665::d666::(dB v668)::q1 ((dI v564)::(dB v679)::(dB v679)::d677::d678::(dB v686)::(dB v686)::d684::d685::(dB v689)::(dB v689)::q40 (q40 (q29 [])))))), [.dead, .dead, (appO 2 (List.map e81 v532))]⟩) ?_ fun G30g690 => Oq.sx (G30g690 v687 h)
                    intro v689 h
                    cases v689
                    ·refine Oq.sg 3 14 ?_
                     exact Oq.sx (J30j695 U U false false h)
                    ·refine Oq.sg 3 14 ?_
                     exact Oq.sx (J30j695 (dB v535) (dB (!v535)) true (!v535) h)
                   refine Ops.hv (fun KQ => ∀ v682 : Bool, f30_r22 m a0 v532 v533 v534 v535 v563 v564 (v682 || (v564 == 63)) = some sx545 → KQ 7 ⟨Zs0 a0 v532 v533 v534 v535 v563 v564 v565 v536 v593 v592 d590 d591 (decide (v534 > 0)) (v564 == 91) (v564 == 40) (q5 ((dB v641)::(dI v564)::(dB v630)::(dB v630)::d628::d629::(dB v640)::(dB v640)::d635::d636::d637::d638::d639::(dB v641)::q2 ((dB v668)::(dI v564)::(dB v653)::(dB v653)::d651::d652::(dB v660)::(dB v660)::d658::d659::(dB v667)::(dB v667)::d665::d666::(dB v668)::q1 ((dI v564)::(dB v679)::(dB v679)::d677::d678::(dB v682)::(dB v682)::q40 (q40 (q33 [])))))), [.dead, .dead, (appO 2 (List.map e81 v532))]⟩) ?_ fun G30g683 => Oq.sx (G30g683 v680 h)
                   intro v682 h
                   cases v682
                   ·refine Oq.sg 3 10 ?_
                    exact Oq.sx (J30j688 (dI v564) (dB (v564 == 63)) false (v564 == 63) h)
                   ·refine Oq.sg 3 10 ?_
                    exact Oq.sx (J30j688 U U true true h)
                  refine Ops.hv (fun KQ => ∀ v675 : Bool, f30_r23 m a0 v532 v533 v534 v535 v563 v564 (v675 || (v564 == 43)) = some sx545 → KQ 3 ⟨Zs0 a0 v532 v533 v534 v535 v563 v564 v565 v536 v593 v592 d590 d591 (decide (v534 > 0)) (v564 == 91) (v564 == 40) (q5 ((dB v641)::(dI v564)::(dB v630)::(dB v630)::d628::d629::(dB v640)::(dB v640)::d635::d636::d637::d638::d639::(dB v641)::q2 ((dB v668)::(dI v564)::(dB v653)::(dB v653)::d651::d652::(dB v660)::(dB v660)::d658::d659::(dB v667)::(dB v667)::d665::d666::(dB v668)::q1 ((dI v564)::(dB v675)::(dB v675)::q40 (q40 (q37 [])))))), [.dead, .dead, (appO 2 (List.map e81 v532))]⟩) ?_ fun G30g676 => Oq.sx (G30g676 (v564 == 42) h)
                  intro v675 h
                  cases v675
                  ·refine Oq.sg 3 6 ?_
                   exact Oq.sx (J30j681 (dI v564) (dB (v564 == 43)) false (v564 == 43) h)
                  ·refine Oq.sg 3 6 ?_
                   exact Oq.sx (J30j681 U U true true h)
                refine Ops.hv (fun KQ => ∀ v663 : Bool, f30_r24 m a0 v532 v533 v534 v535 v563 v564 (v663 && (!v535)) = some sx545 → KQ 11 ⟨Zs0 a0 v532 v533 v534 v535 v563 v564 v565 v536 v593 v592 d590 d591 (decide (v534 > 0)) (v564 == 91) (v564 == 40) (q5 ((dB v641)::(dI v564)::(dB v630)::(dB v630)::d628::d629::(dB v640)::(dB v640)::d635::d636::d637::d638::d639::(dB v641)::q3 ((dI v564)::(dB v653)::(dB v653)::d651::d652::(dB v660)::(dB v660)::d658::d659::(dB v663)::(dB v663)::q40 (q40 (q40 (q4 [])))))), [.dead, .dead, (appO 2 (List.map e81 v532))]⟩) ?_ fun G30g664 => Oq.sx (G30g664 v661 h)
                intro v663 h
                cases v663
                ·refine Oq.sg 3 14 ?_
                 exact Oq.sx (J30j669 U U false false h)
                ·refine Oq.sg 3 14 ?_
                 exact Oq.sx (J30j669 (dB v535) (dB (!v535)) true (!v535) h)
               refine Ops.hv (fun KQ => ∀ v656 : Bool, f30_r25 m a0 v532 v533 v534 v535 v563 v564 (v656 || (v564 == 45)) = some sx545 → KQ 7 ⟨Zs0 a0 v532 v533 v534 v535 v563 v564 v565 v536 v593 v592 d590 d591 (decide (v534 > 0)) (v564 == 91) (v564 == 40) (q5 ((dB v641)::(dI v564)::(dB v630)::(dB v630)::d628::d629::(dB v640)::(dB v640)::d635::d636::d637::d638::d639::(dB v641)::q3 ((dI v564)::(dB v653)::(dB v653)::d651::d652::(dB v656)::(dB v656)::q40 (q40 (q40 (q8 [])))))), [.dead, .dead, (appO 2 (List.map e81 v532))]⟩) ?_ fun G30g657 => Oq.sx (G30g657 v654 h)
               intro v656 h
               cases v656
               ·refine Oq.sg 3 10 ?_
                exact Oq.sx (J30j662 (dI v564) (dB (v564 == 45)) false (v564 == 45) h)
               ·refine Oq.sg 3 10 ?_
                exact Oq.sx (J30j662 U U true true h)
              refine Ops.hv (fun KQ => ∀ v649 : Bool, f30_r26 m a0 v532 v533 v534 v535 v563 v564 (v649 || (v564 == 38)) = some sx545 → KQ 3 ⟨Zs0 a0 v532 v533 v534 v535 v563 v564 v565 v536 v593 v592 d590 d591 (decide (v534 > 0)) (v564 == 91) (v564 == 40) (q5 ((dB v641)::(dI v564)::(dB v630)::(dB v630)::d628::d629::(dB v640)::(dB v640)::d635::d636::d637::d638::d639::(dB v641)::q3 ((dI v564)::(dB v649)::(dB v649)::q40 (q40 (q40 (q12 [])))))), [.dead, .dead, (appO 2 (List.map e81 v532))]⟩) ?_ fun G30g650 => Oq.sx (G30g650 (v564 == 124) h)
              intro v649 h
              cases v649
              ·refine Oq.sg 3 6 ?_
               exact Oq.sx (J30j655 (dI v564) (dB (v564 == 38)) false (v564 == 38) h)
              ·refine Oq.sg 3 6 ?_
               exact Oq.sx (J30j655 U U true true h)
            refine Ops.hv (fun KQ => ∀ v633 : Bool, f30_r27 m a0 v532 v533 v534 v535 v563 v564 (v633 && ((!v535) || v536)) = some sx545 → KQ 7 ⟨Zs0 a0 v532 v533 v534 v535 v563 v564 v565 v536 v593 v592 d590 d591 (decide (v534 > 0)) (v564 == 91) (v564 == 40) (q6 ((dI v564)::(dB v630)::(dB v630)::d628::d629::(dB v633)::(dB v633)::q40 (q40 (q40 (q24 []))))), [.dead, .dead, (appO 2 (List.map e81 v532))]⟩) ?_ fun G30g634 => Oq.sx (G30g634 v631 h)
            intro v633 h
            cases v633
            ·refine Oq.sg 6 13 ?_
             exact Oq.sx (J30j642 U U U U U false false h)
            ·refine Oq.sg 3 10 ?_
             refine Ops.hv (fun KQ => ∀ v793 : Bool, (f30_r27 m a0 v532 v533 v534 v535 v563 v564 (true && (v793 || v536))) = some sx545 → KQ 10 ⟨Zs0 a0 v532 v533 v534 v535 v563 v564 v565 v536 v593 v592 d590 d591 (decide (v534 > 0)) (v564 == 91) (v564 == 40) (q6 ((dI v564)::(dB v630)::(dB v630)::d628::d629::(dB true)::(dB true)::(dB v535)::(dB v793)::(dB v793)::q40 (q40 (q40 (q21 []))))), [.dead, .dead, (appO 2 (List.map e81 v532))]⟩) ?_ fun G30g794 => Oq.sx (G30g794 (!v535) h)
             intro v793 h
             cases v793
             ·refine Oq.sg 3 13 ?_
              exact Oq.sx (J30j642 (dB v535) (dB false) (dB false) (dB v536) (dB v536) true v536 h)
             ·refine Oq.sg 3 13 ?_
              exact Oq.sx (J30j642 (dB v535) (dB true) (dB true) U (dB true) true true h)
           refine Ops.hv (fun KQ => ∀ v626 : Bool, f30_r28 m a0 v532 v533 v534 v535 v536 v563 v564 (v626 && (decide (v533 > 0))) = some sx545 → KQ 3 ⟨Zs0 a0 v532 v533 v534 v535 v563 v564 v565 v536 v593 v592 d590 d591 (decide (v534 > 0)) (v564 == 91) (v564 == 40) (q6 ((dI v564)::(dB v626)::(dB v626)::q40 (q40 (q40 (q28 []))))), [.dead, .dead, (appO 2 (List.map e81 v532))]⟩) ?_ fun G30g627 => Oq.sx (G30g627 (v564 == 41) h)
           intro v626 h
           cases v626
           ·refine Oq.sg 3 6 ?_
            exact Oq.sx (J30j632 U U false false h)
           ·refine Oq.sg 3 6 ?_
            exact Oq.sx (J30j632 (dI v533) (dB (decide (v533 > 0))) true (decide (v533 > 0)) h)
      refine Ops.hv (fun KQ => ∀ v588 : Bool, f30_r29 m a0 v532 v533 v534 v535 v536 v563 v564 (v588 && (v534 == 2)) = some sx545 → KQ 3 ⟨Zs21 a0 v532 v533 v534 v535 ((dB false)::(dI v563)::(dI v564)::(dB v565)::(dB v536)::q40 (q1 ((dB v536)::q1 ((dB v565)::(dB v565)::q8 ((dI v564)::(dB v588)::(dB v588)::q40 (q40 (q40 (q40 (q10 []))))))))), [.dead, .dead, (appO 2 (List.map e81 v532))]⟩) ?_ fun G30g589 => Oq.sx (G30g589 (v564 == 93) h)
      intro v588 h
      cases v588
      ·refine Oq.sg 3 6 ?_
       exact Oq.sx (J30j594 U U false false h)
      ·refine Oq.sg 3 6 ?_
       exact Oq.sx (J30j594 (dI v534) (dB (v534 == 2)) true (v534 == 2) h)
    refine Wq.cd h [0, 2, 3, 4, 5, 6, 7, 8, 9, 10] 2 (fun h => ?_) (fun h => ?_)
    ·refine Wq.sq (Wq.sq (Wq.rg (Oq.sg 3 3 ?_)))
     refine Ops.on 4 (fun h0 e0 => (len_r (T := T) h0 22 3 .plain eI a0 (by as_aux_lemma => kernel_rfl))) ?_
     refine Oq.sg 2 6 ?_
     refine Ops.hv (fun KQ => ∀ (d797 d798 d799 d800 d801 d802 : D) (v803 v804 : Bool), f30_r31 m a0 v532 v533 v534 v535 v536 v537 v804 = some sx545 → KQ 13 ⟨Zs39 a0 v532 v533 v534 v535 v536 v537 ((dI v554)::(dB v561)::q8 ((dP eI a0)::(dI v537)::(.vptr [(vI v554)])::(dI v554)::(dI v554)::(dB v555)::(dB v560)::(dB v560)::d558::d559::(dB v561)::(dI v554)::(dB (v554 == 92))::(dI v537)::(dI (w64 (v537 + 1)))::(dP eI a0)::(dI (a0.length : Int))::(dB v803)::(dB v803)::d797::d798::d799::d800::d801::d802::(dB v804)::q40 (q40 (q40 (q40 (q33 [])))))), [.dead, (appO 2 (List.map e81 v532))]⟩) ?_ fun J30j805 => ?_
     ·intro d797 d798 d799 d800 d801 d802 v803 v804 h
      unfold f30_r31 at h
      refine Oq.dn (seqQ.n ?_)
      refine Wq.cd h k30_0 2 (fun h => ?_) (fun h => ?_)
      ·refine Wq.sq (Wq.rg (Oq.sg 4 4 (Oq.dn (seqQ.n (Wq.rt (sqQ.r (seqQ.r (sqQ.r (seqQ.r (blkQ.r (seqQ.r ?_)))))))))))
       cases h
       refine lpQ.r (blkQ.r ?_)
       exact hrx542 _ hsx546 _ (RetOk.forget k30_0 (by as_aux_lemma => kernel_rfl) (RetOk.mk' (.v (.tuple [(.sl .nil (List.map e81 [])), (vI (w64 (v537 + 1)))])) (by as_aux_lemma => kernel_rfl) (by as_aux_lemma => kernel_rfl)))
      ·refine Wq.sk (sqQ.n ⟨Zs21 a0 v532 v533 v534 v535 ((dB v536)::(dI v537)::q40 (q40 (q40 (q40 (q40 (q29 [])))))), [.dead, .dead, (appO 2 (List.map e81 v532))]⟩ (by generalize v532 = z0; cases z0 <;> (as_aux_lemma => kernel_rfl)) (seqQ.n (Wq.sq (Wq.rg (Oq.sg 3 3 (Oq.dn (seqQ.n (Wq.sq (Wq.rg (Oq.sg 2 2 ?_))))))))))
       obtain ⟨v806, ev806, h⟩ := bnd_some h
       refine Ops.on 3 (fun h0 e0 => (ix_r (T := T) h0 22 3 1 .plain eI a0 (w64 (v537 + 1)) v806 ev806 (by as_aux_lemma => kernel_rfl) (by as_aux_lemma => kernel_rfl) (fun _ => rfl))) ?_
       refine Oq.sg 2 5 (Oq.dn (seqQ.n (Wq.rg (Oq.sg 1 1 (Oq.dn (sqQ.n ⟨Zs21 a0 v532 v533 v534 v535 ((dB v536)::(dI (w64 (v537 + 1)))::(dI v806)::(dB true)::q40 (q40 (q40 (q40 (q40 (q27 [])))))), [.dead, .dead, (appO 2 (List.map e81 v532))]⟩ (by generalize v532 = z0; cases z0 <;> (as_aux_lemma => kernel_rfl)) ?_))))))
       exact J30j566 (w64 (v537 + 1)) v806 true  h
     obtain ⟨v804, ev804, h⟩ := bnd_some h
     refine Ops.hv (fun KQ => ∀ v795 : Bool, (cnd v795 (some true) (bnd (idx a0 (w64 (v537 + 1))) fun v807 => some (v807 == 0))) = some v804 → KQ 6 ⟨Zs39 a0 v532 v533 v534 v535 v536 v537 ((dI v554)::(dB v561)::q8 ((dP eI a0)::(dI v537)::(.vptr [(vI v554)])::(dI v554)::(dI v554)::(dB v555)::(dB v560)::(dB v560)::d558::d559::(dB v561)::(dI v554)::(dB (v554 == 92))::(dI v537)::(dI (w64 (v537 + 1)))::(dP eI a0)::(dI (a0.length : Int))::(dB v795)::(dB v795)::q40 (q40 (q40 (q40 (q40 [])))))), [.dead, (appO 2 (List.map e81 v532))]⟩) ?_ fun G30g796 => Oq.sx (G30g796 ((w64 (v537 + 1)) == (a0.length : Int)) ev804)
     intro v795 ev804
     cases v795
     ·have ev804 := cnd_f ev804
      refine Oq.sg 3 9 ?_
      obtain ⟨v807, ev807, ev804⟩ := bnd_some ev804
      refine Ops.on 10 (fun h0 e0 => (ix_r (T := T) h0 22 3 1 .plain eI a0 (w64 (v537 + 1)) v807 ev807 (by as_aux_lemma => kernel_rfl) (by as_aux_lemma => kernel_rfl) (fun _ => rfl))) ?_
      refine Oq.sg 3 13 ?_
      exact Oq.sx (J30j805 (dP eI a0) (dI v537) (dI (w64 (v537 + 1))) (.vptr [(vI v807)]) (dI v807) (dB (v807 == 0)) false (v807 == 0) (some_sub (fun v804 => f30_r31 m a0 v532 v533 v534 v535 v536 v537 v804 = some sx545) ev804 h))
     ·have ev804 := cnd_t ev804
      refine Oq.sg 7 13 ?_
      exact Oq.sx (J30j805 U U U U U U true true (some_sub (fun v804 => f30_r31 m a0 v532 v533 v534 v535 v536 v537 v804 = some sx545) ev804 h))
    ·refine Wq.sk (sqQ.n ⟨Zs21 a0 v532 v533 v534 v535 ((dB v536)::(dI v537)::(dI v554)::(dB v561)::q40 (q40 (q40 (q40 (q40 (q27 [])))))), [.dead, .dead, (appO 2 (List.map e81 v532))]⟩ (by generalize v532 = z0; cases z0 <;> (as_aux_lemma => kernel_rfl)) ?_)
     exact J30j566 v537 v554 v561  h
   refine Ops.hv (fun KQ => ∀ v556 : Bool, f30_r32 m a0 v532 v533 v534 v535 v536 v537 v554 (v556 && (v554 != 0)) = some sx545 → KQ 4 ⟨Zs39 a0 v532 v533 v534 v535 v536 v537 ((dI v554)::q9 ((dP eI a0)::(dI v537)::(.vptr [(vI v554)])::(dI v554)::(dI v554)::(dB v555)::(dB v556)::(dB v556)::q40 (q40 (q40 (q40 (q40 (q11 []))))))), [.dead, (appO 2 (List.map e81 v532))]⟩) ?_ fun G30g557 => Oq.sx (G30g557 (!v555) h)
   intro v556 h
   cases v556
   ·refine Oq.sg 3 7 ?_
    exact Oq.sx (J30j562 U U false false h)
   ·refine Oq.sg 3 7 ?_
    exact Oq.sx (J30j562 (dI v554) (dB (v554 != 0)) true (v554 != 0) h)
  ·refine Wq.ex 0 (sqQ.x (seqQ.x ?_))
   cases h
   refine lpQ.x (blkQ.x ⟨Zs27 a0 v532 v533 v534 v535 (q31 []), [(appO 2 (List.map e81 v532))]⟩ (by generalize v532 = z0; cases z0 <;> (as_aux_lemma => kernel_rfl)) ?_)
   exact hxx543 (v532, v533, v534, v535, v536, v537)  hsx546
theorem ok30 (m : Nat) (a0 : (List Int)) (o : ((List S81) × Int)) (h : f30 m a0 = some o) (n : Nat) (hn : m + 2 ≤ n) : Fn Proofs.Tryd.prog E n 30 [.v ((eL eI) a0)] (.tuple [(eL e81) o.1, eI o.2]) := by
 obtain ⟨n, rfl⟩ : ∃ q, n = q + 1 := ⟨n - 1, by omega⟩
 unfold f30 at h
 refine Fn.of (by kernel_rfl) (by kernel_rfl) (by kernel_rfl) ⟨(dP eI a0)::u40 (u40 (u40 (u40 (u40 (u37 []))))), []⟩ (by kernel_rfl) (Wp.sq (Wp.rg (Ops.sg 2 2 (Ops.dn (seqQ.n (Wp.sq (Wp.rg (Ops.sg 1 1 (Ops.dn (seqQ.n (Wp.sq (Wp.rg (Ops.sg 1 1 (Ops.dn (seqQ.n (Wp.sq (Wp.rg (Ops.sg 1 1 (Ops.dn (seqQ.n (Wp.sq (Wp.rg (Ops.sg 1 1 (Ops.dn (seqQ.n (Wp.sq (Wp.sq (Wp.rg (Ops.sg 1 1 (Ops.dn (seqQ.n (Wp.bk 0 k30_1 0 ?_))))))))))))))))))))))))))))))))
 have hLx808 := f30_hLx808 m a0 o n hn
 refine Wp.loop' k30_0 0 (by kernel_rfl) ⟨(dP eI a0)::q1 ((appD 0 (List.map e81 []))::(dI 0)::(dI 0)::(dI 0)::(dB true)::(dB false)::(dI 0)::q40 (q40 (q40 (q40 (q40 (q29 [])))))), [.dead]⟩ (by kernel_rfl) ?_
 rcases brk_some h with ⟨r810, er810, h⟩ | ⟨y809, ey809, h⟩
 ·refine hLx808 _ [] 0 0 true false 0  _ er810 n (by omega) (fun r er σ hσ => ?_) (fun y  ey => by cases ey)
  cases er
  refine seqQ.r ?_
  exact fnQ.r' (X30 n) (fun z => (.tuple [(eL e81) z.1, eI z.2])) h hσ
 ·refine hLx808 _ [] 0 0 true false 0  _ ey809 n (by omega) (fun r er => by cases er) (fun y  ey => ?_)
  cases ey
  refine seqQ.n (Wp.sq (Wp.sq (Wp.rg (Ops.sg 2 2 ?_))))
  refine Ops.hv (fun KQ => ∀ (d813 d814 : D) (v815 v816 : Bool), f30_r35 m a0 y809 v816 = some o → KQ 5 ⟨Zs27 a0 y809.1 y809.2.1 y809.2.2.1 v815 (q19 ((dB v815)::(dB v815)::d813::d814::(dB v816)::q7 [])), [(appO 2 (List.map e81 y809.1))]⟩) ?_ fun J30j817 => ?_
  ·intro d813 d814 v815 v816 h
   unfold f30_r35 at h
   refine Ops.sg 1 6 ?_
   refine Ops.hv (fun KQ => ∀ (d820 d821 : D) (v822 v823 : Bool), f30_r34 m a0 y809 v823 = some o → KQ 9 ⟨Zs27 a0 y809.1 y809.2.1 y809.2.2.1 v815 (q19 ((dB v815)::(dB v815)::d813::d814::(dB v822)::(dB v822)::d820::d821::(dB v823)::q3 [])), [(appO 2 (List.map e81 y809.1))]⟩) ?_ fun J30j824 => ?_
   ·intro d820 d821 v822 v823 h
    unfold f30_r34 at h
    refine Ops.dn (seqQ.n ?_)
    refine Wp.cd h [2, 3] 1 (fun h => ?_) (fun h => ?_)
    ·refine Wp.sq (Wp.rg (Ops.sg 1 1 ?_))
     refine Ops.on 2 (fun h0 e0 => (len_r (T := T) h0 22 3 .plain eI a0 (by kernel_rfl))) ?_
     refine Ops.sg 2 4 (Ops.dn (seqQ.n (Wp.rt (sqQ.r (seqQ.r ?_)))))
     exact fnQ.r' (X30 n) (fun z => (.tuple [(eL e81) z.1, eI z.2])) h (RetOk.mk' (.v (.tuple [(.sl .nil (List.map e81 [])), (vI (a0.length : Int))])) (by kernel_rfl) (by kernel_rfl))
    ·refine Wp.sk (sqQ.n ⟨q2 ((appD 1 (List.map e81 y809.1))::(dI 0)::q40 (q40 (q40 (q40 (q40 (q34 [])))))), [.dead, (appO 2 (List.map e81 y809.1))]⟩ (by generalize y809.1 = z0; cases z0 <;> kernel_rfl) (seqQ.n (Wp.sq (Wp.rg (Ops.sg 3 3 (Ops.dn (seqQ.n (Wp.rt ?_))))))))
     exact fnQ.r' (X30 n) (fun z => (.tuple [(eL e81) z.1, eI z.2])) h (RetOk.tup [(appD 1 (List.map e81 y809.1)), (dI (-1))] (by kernel_rfl) (.d (appD 1 (List.map e81 y809.1)) _ (appD_frz _ _ _ _) (appF_nt _ _ _) (.v (vI (-1)) _ (by kernel_rfl) (by kernel_rfl) .nil)))
   refine Ops.hv (fun KQ => ∀ v818 : Bool, f30_r34 m a0 y809 (v818 || (decide (y809.2.2.1 > 0))) = some o → KQ 6 ⟨Zs27 a0 y809.1 y809.2.1 y809.2.2.1 v815 (q19 ((dB v815)::(dB v815)::d813::d814::(dB v818)::(dB v818)::q6 [])), [(appO 2 (List.map e81 y809.1))]⟩) ?_ fun G30g819 => Ops.sx (G30g819 v816 h)
   intro v818 h
   cases v818
   ·refine Ops.sg 3 9 ?_
    exact Ops.sx (J30j824 (dI y809.2.2.1) (dB (decide (y809.2.2.1 > 0))) false (decide (y809.2.2.1 > 0)) h)
   ·refine Ops.sg 3 9 ?_
    exact Ops.sx (J30j824 U U true true h)
  refine Ops.hv (fun KQ => ∀ v811 : Bool, f30_r35 m a0 y809 (v811 || (decide (y809.2.1 > 0))) = some o → KQ 2 ⟨Zs27 a0 y809.1 y809.2.1 y809.2.2.1 v811 (q19 ((dB v811)::(dB v811)::q10 [])), [(appO 2 (List.map e81 y809.1))]⟩) ?_ fun G30g812 => Ops.sx (G30g812 y809.2.2.2.1 h)
  intro v811 h
  cases v811
  ·refine Ops.sg 3 5 ?_
   exact Ops.sx (J30j817 (dI y809.2.1) (dB (decide (y809.2.1 > 0))) false (decide (y809.2.1 > 0)) h)
  ·refine Ops.sg 3 5 ?_
   exact Ops.sx (J30j817 U U true true h)
noncomputable def f25 (m : Nat) (a0 a1 : Int) : Option S27 :=
 some ((⟨a0, a1⟩ : S27))
noncomputable abbrev X25 (n : Nat) : Cx := cxOf Proofs.Tryd.prog E 25 n
theorem ok25 (m : Nat) (a0 a1 : Int) (o : S27) (h : f25 m a0 a1 = some o) (n : Nat) (hn : m + 1 ≤ n) : Fn Proofs.Tryd.prog E n 25 [.v (eI a0), .v (eI a1)] (e27 o) := by
 obtain ⟨n, rfl⟩ : ∃ q, n = q + 1 := ⟨n - 1, by omega⟩
 unfold f25 at h
 refine Fn.of (by kernel_rfl) (by kernel_rfl) (by kernel_rfl) ⟨(dI a0)::(dI a1)::u6 [], []⟩ (by kernel_rfl) (Wp.sq (Wp.rg (Ops.sg 1 1 (Ops.dn (seqQ.n (Wp.sq (Wp.rg (Ops.sg 4 4 (Ops.dn (seqQ.n (Wp.rt ?_)))))))))))
 exact fnQ.r' (X25 n) (fun z => (e27 z)) h (RetOk.mk' (.v (.agg [(vI a0), (vI a1)])) (by kernel_rfl) (by kernel_rfl))
noncomputable def f51_r1 (m : Nat) (v29 : Int) (v49 : Bool) : Option (Stp Int (Int)) :=
 cnd v49
 (some (.nxt (w64 (v29 + 1))))
 (some (.brk v29))
noncomputable def f51_B2 (m : Nat) (a0 : (List S81)) (v29 : Int) : Option (Stp Int (Int)) :=
 bnd (idx a0 v29) fun v39 =>
 bnd (cnd (!v39.fSign)
 (some true)
 (bnd (idx a0 v29) fun v51 =>
 some (v51.fPoint != 93))) fun v49 =>
 f51_r1 m v29 v49
noncomputable def f51_j3 (m : Nat) (v229 v240 : Int) (v243 v244 v251 v256 v257 v264 : Bool) : Option (Stp Int (Int × Int)) :=
 some (.nxt (w64 (v229 + 1), v240))
noncomputable def f51_j4 (m : Nat) (v229 : Int) (v279 v280 v301 v302 : Bool) (v304 : Int) : Option (Stp Int (Int × Int)) :=
 f51_j3 m v229 v304 v279 v279 v280 v301 v301 v302
noncomputable def f51_r5 (m : Nat) (v229 : Int) (v279 v280 : Bool) (v282 : Int) (v301 v302 : Bool) : Option (Stp Int (Int × Int)) :=
 cnd v302
 (cnd ((w64 (v282 - 1)) == 0)
 (some (.ret v229))
 (f51_j4 m v229 v279 v280 v301 v302 (w64 (v282 - 1))))
 (f51_j4 m v229 v279 v280 v301 v302 v282)
noncomputable def f51_j6 (m : Nat) (a0 : (List S81)) (v229 : Int) (v279 v280 : Bool) (v282 : Int) : Option (Stp Int (Int × Int)) :=
 bnd (idx a0 v229) fun v292 =>
 bnd (cnd v292.fSign
 (bnd (idx a0 v229) fun v324 =>
 some (v324.fPoint == 41))
 (some false)) fun v302 =>
 f51_r5 m v229 v279 v280 v282 v292.fSign v302
noncomputable def f51_r7 (m : Nat) (a0 : (List S81)) (v229 v230 : Int) (v279 v280 : Bool) : Option (Stp Int (Int × Int)) :=
 cnd v280
 (f51_j6 m a0 v229 v279 v280 (w64 (v230 + 1)))
 (f51_j6 m a0 v229 v279 v280 v230)
noncomputable def f51_B8 (m : Nat) (a0 : (List S81)) (v229 v230 : Int) : Option (Stp Int (Int × Int)) :=
 bnd (idx a0 v229) fun v270 =>
 bnd (cnd v270.fSign
 (bnd (idx a0 v229) fun v325 =>
 some (v325.fPoint == 40))
 (some false)) fun v280 =>
 f51_r7 m a0 v229 v230 v270.fSign v280
noncomputable def f51 (m : Nat) (a0 : (List S81)) (a1 : Int) : Option Int :=
 bnd (idx a0 a1) fun v1 =>
 cnd (v1.fPoint == 91)
 (brk (iter (fun (y : Int) => f51_B2 m a0 y) m a1) some fun y53 =>
 some y53)
 (brk (iter (fun (y : Int × Int) => f51_B8 m a0 y.1 y.2) m (a1, 0)) some fun y327 =>
 some 0)
noncomputable abbrev X51 (n : Nat) : Cx := cxOf Proofs.Tryd.prog E 51 n
noncomputable def C51 : Code := bodyOf Proofs.Tryd.prog 51
noncomputable abbrev p51_0 : Code := cL (cL (cR (cR (cR C51))))
theorem ok51 (m : Nat) (a0 : (List S81)) (a1 o : Int) (h : f51 m a0 a1 = some o) (n : Nat) (hn : m + 1 ≤ n) : Fn Proofs.Tryd.prog E n 51 [.v ((eL e81) a0), .v (eI a1)] (eI o) := by
 obtain ⟨n, rfl⟩ : ∃ q, n = q + 1 := ⟨n - 1, by omega⟩
 unfold f51 at h
 refine Fn.of (by kernel_rfl) (by kernel_rfl) (by kernel_rfl) ⟨(dP e81 a0)::(dI a1)::u40 (u22 []), []⟩ (by kernel_rfl) (Wp.sq (Wp.rg (Ops.sg 1 1 (Ops.dn (seqQ.n (Wp.sq (Wp.sq (Wp.rg (Ops.sg 2 2 ?_)))))))))
 obtain ⟨v1, ev1, h⟩ := bnd_some h
 refine Ops.on 3 (fun h0 e0 => (ix_r (T := T) h0 62 82 2 .plain e81 a0 a1 v1 ev1 (by kernel_rfl) (by kernel_rfl) (fun _ => rfl))) ?_
 refine Ops.sg 3 6 (Ops.dn (seqQ.n ?_))
 refine Wp.cd h [0, 1, 4] 0 (fun h => ?_) (fun h => ?_)
 ·refine Wp.sq (Wp.bk 0 [1, 4] 0 ?_)
  have hLx52 : ∀ (kx31 : Nat) (v29 : Int)  (ox30 : Int ⊕ (Int)), iter (fun (y : Int) => f51_B2 m a0 y) kx31 v29 = some ox30 → ∀ nx32, kx31 ≤ nx32 → (∀ r, ox30 = .inl r → ∀ σ, RetOk (X51 n) (resOf Proofs.Tryd.prog 51) (eI r) σ → (seqQ (X51 n) (cR (cL (cR (cL (cR C51))))) (sqQ (X51 n) [0, 1, 4] 0 (seqQ (X51 n) (cR (cR C51)) (fnQ (X51 n).E.T (resOf Proofs.Tryd.prog 51) (eI o))))) .ret σ) → (∀ (y : Int) , ox30 = .inr y → (seqQ (X51 n) (cR (cL (cR (cL (cR C51))))) (sqQ (X51 n) [0, 1, 4] 0 (seqQ (X51 n) (cR (cR C51)) (fnQ (X51 n).E.T (resOf Proofs.Tryd.prog 51) (eI o))))) .normal ⟨Zs35 a0 y (q40 (q19 [])), []⟩) → Lp (X51 n) [0, 1, 4] 0 (cL (cL (cL (cL (cR (cL (cR C51))))))) nx32 ⟨Zs35 a0 v29 (q40 (q19 [])), []⟩ (blkQ (X51 n) 0 [1, 4] 0 (seqQ (X51 n) (cR (cL (cR (cL (cR C51))))) (sqQ (X51 n) [0, 1, 4] 0 (seqQ (X51 n) (cR (cR C51)) (fnQ (X51 n).E.T (resOf Proofs.Tryd.prog 51) (eI o)))))) := by
   intro kx31
   induction kx31 with
   | zero => intro v29  ox30 h; exact (iter_zero h).elim
   | succ kx31 ihx33 =>
    intro v29  ox30 h nx32 hnx36 hrx34 hxx35
    obtain ⟨nx32, rfl⟩ : ∃ q, nx32 = q + 1 := ⟨nx32 - 1, by omega⟩
    obtain ⟨sx37, h, hsx38⟩ := iter_some h
    have h : f51_B2 m a0 v29 = some sx37 := h
    unfold f51_B2 at h
    refine Lp.succ (Wp.sq (Wp.sq (Wp.rg (Ops.sg 2 2 ?_))))
    obtain ⟨v39, ev39, h⟩ := bnd_some h
    refine Ops.on 3 (fun h0 e0 => (ix_r (T := T) h0 62 82 2 .plain e81 a0 v29 v39 ev39 (by kernel_rfl) (by kernel_rfl) (fun _ => rfl))) ?_
    refine Ops.sg 4 7 ?_
    refine Ops.hv (fun KQ => ∀ (d42 d43 d44 d45 d46 d47 : D) (v48 v49 : Bool), f51_r1 m v29 v49 = some sx37 → KQ 14 ⟨Zs35 a0 v29 (q7 ((dP e81 a0)::(dI v29)::(.vptr [(vI v39.fPoint), (vB v39.fSign)])::(.vptr [(vB v39.fSign)])::(dB v39.fSign)::(dB v48)::(dB v48)::d42::d43::d44::d45::d46::d47::(dB v49)::q38 [])), []⟩) ?_ fun J51j50 => ?_
    ·intro d42 d43 d44 d45 d46 d47 v48 v49 h
     unfold f51_r1 at h
     refine Ops.dn (seqQ.n ?_)
     refine Wp.cd h [0, 1, 4] 0 (fun h => ?_) (fun h => ?_)
     ·refine Wp.sk (sqQ.n' (seqQ.n (Wp.bk 1 [0, 1, 4] 0 (Wp.rg (Ops.sg 3 3 (Ops.dn (blkQ.n' (lpQ.m ⟨Zs35 a0 (w64 (v29 + 1)) (q40 (q19 [])), []⟩ ?_))))))))
      cases h
      exact ihx33 (w64 (v29 + 1))  _ hsx38 _ (by omega) hrx34 hxx35
     ·refine Wp.ex 0 (sqQ.x (seqQ.x ?_))
      cases h
      refine lpQ.x (blkQ.w ⟨Zs35 a0 v29 (q40 (q19 [])), []⟩ ?_)
      exact hxx35 v29  hsx38
    obtain ⟨v49, ev49, h⟩ := bnd_some h
    refine Ops.hv (fun KQ => ∀ v40 : Bool, (cnd v40 (some true) (bnd (idx a0 v29) fun v51 => some (v51.fPoint != 93))) = some v49 → KQ 7 ⟨Zs35 a0 v29 (q7 ((dP e81 a0)::(dI v29)::(.vptr [(vI v39.fPoint), (vB v39.fSign)])::(.vptr [(vB v39.fSign)])::(dB v39.fSign)::(dB v40)::(dB v40)::q40 (q5 []))), []⟩) ?_ fun G51g41 => Ops.sx (G51g41 (!v39.fSign) ev49)
    intro v40 ev49
    cases v40
    ·have ev49 := cnd_f ev49
     refine Ops.sg 2 9 ?_
     obtain ⟨v51, ev51, ev49⟩ := bnd_some ev49
     refine Ops.on 10 (fun h0 e0 => (ix_r (T := T) h0 62 82 2 .plain e81 a0 v29 v51 ev51 (by kernel_rfl) (by kernel_rfl) (fun _ => rfl))) ?_
     refine Ops.sg 4 14 ?_
     exact Ops.sx (J51j50 (dP e81 a0) (dI v29) ((.vptr [(vI v51.fPoint), (vB v51.fSign)])) ((.vptr [(vI v51.fPoint), (vB v51.fSign)])) (dI v51.fPoint) (dB (v51.fPoint != 93)) false (v51.fPoint != 93) (some_sub (fun v49 => f51_r1 m v29 v49 = some sx37) ev49 h))
    ·have ev49 := cnd_t ev49
     refine Ops.sg 7 14 ?_
     exact Ops.sx (J51j50 U U U U U U true true (some_sub (fun v49 => f51_r1 m v29 v49 = some sx37) ev49 h))
  refine Wp.loop' [0, 1, 4] 0 (by kernel_rfl) ⟨Zs35 a0 a1 (q40 (q19 [])), []⟩ (by kernel_rfl) ?_
  rcases brk_some h with ⟨r54, er54, h⟩ | ⟨y53, ey53, h⟩
  ·refine hLx52 _ a1  _ er54 n (by omega) (fun r er σ hσ => ?_) (fun y  ey => by cases ey)
   cases er
   refine seqQ.r (sqQ.r (seqQ.r ?_))
   exact fnQ.r' (X51 n) (fun z => (eI z)) h hσ
  ·refine hLx52 _ a1  _ ey53 n (by omega) (fun r er => by cases er) (fun y  ey => ?_)
   cases ey
   refine seqQ.n (Wp.sq (Wp.rg (Ops.sg 2 2 (Ops.dn (seqQ.n (Wp.rt (sqQ.r (seqQ.r ?_))))))))
   exact fnQ.r' (X51 n) (fun z => (eI z)) h (RetOk.mk' (dI y53) (by kernel_rfl) (by kernel_rfl))
 ·refine Wp.sk (sqQ.n' (seqQ.n (Wp.sq (Wp.rg (Ops.sg 1 1 (Ops.dn (seqQ.n (Wp.bk 2 [4] 0 ?_))))))))
  have hLx326 : ∀ (kx232 : Nat) (v229 v230 : Int)  (ox231 : Int ⊕ (Int × Int)), iter (fun (y : Int × Int) => f51_B8 m a0 y.1 y.2) kx232 (v229, v230) = some ox231 → ∀ nx233, kx232 ≤ nx233 → (∀ r, ox231 = .inl r → ∀ σ, RetOk (X51 n) (resOf Proofs.Tryd.prog 51) (eI r) σ → (fnQ (X51 n).E.T (resOf Proofs.Tryd.prog 51) (eI o)) .ret σ) → (∀ (y : Int × Int) , ox231 = .inr y → (fnQ (X51 n).E.T (resOf Proofs.Tryd.prog 51) (eI o)) .normal ⟨Zs35 a0 y.1 ((dI y.2)::q40 (q18 [])), []⟩) → Lp (X51 n) [0, 1, 4, 5] 0 p51_0 nx233 ⟨Zs35 a0 v229 ((dI v230)::q40 (q18 [])), []⟩ (blkQ (X51 n) 2 [4] 0 (fnQ (X51 n).E.T (resOf Proofs.Tryd.prog 51) (eI o))) := by
   intro kx232
   induction kx232 with
   | zero => intro v229 v230  ox231 h; exact (iter_zero h).elim
   | succ kx232 ihx234 =>
    intro v229 v230  ox231 h nx233 hnx237 hrx235 hxx236
    obtain ⟨nx233, rfl⟩ : ∃ q, nx233 = q + 1 := ⟨nx233 - 1, by omega⟩
    obtain ⟨sx238, h, hsx239⟩ := iter_some h
    have h : f51_B8 m a0 v229 v230 = some sx238 := h
    unfold f51_B8 at h
    refine Lp.succ (Wp.sq ?_)
    have J51j269 : ∀ (v240 : Int) (v243 v244 v251 v256 v257 v264 : Bool) (d241 d242 d245 d246 d247 d248 d249 d250 d252 d253 d254 d255 d258 d259 d260 d261 d262 d263 d265 d266 d267 d268 : D), f51_j3 m v229 v240 v243 v244 v251 v256 v257 v264 = some sx238 → (seqQ (X51 n) (cR p51_0) (lpQ (X51 n) [0, 1, 4, 5] 0 p51_0 nx233 (blkQ (X51 n) 2 [4] 0 (fnQ (X51 n).E.T (resOf Proofs.Tryd.prog 51) (eI o))))) .normal ⟨Zs35 a0 v229 ((dI v240)::q25 ((dP e81 a0)::(dI v229)::d241::d242::(dB v243)::(dB v244)::d245::d246::d247::d248::d249::d250::(dB v251)::d252::d253::(dP e81 a0)::(dI v229)::d254::d255::(dB v256)::(dB v257)::d258::d259::d260::d261::d262::d263::(dB v264)::d265::d266::d267::d268::q1 [])), []⟩ := by
     intro v240 v243 v244 v251 v256 v257 v264 d241 d242 d245 d246 d247 d248 d249 d250 d252 d253 d254 d255 d258 d259 d260 d261 d262 d263 d265 d266 d267 d268 h
     unfold f51_j3 at h
     refine seqQ.n (Wp.rg (Ops.sg 3 3 (Ops.dn (lpQ.m ⟨Zs35 a0 (w64 (v229 + 1)) ((dI v240)::q40 (q18 [])), []⟩ ?_))))
     cases h
     exact ihx234 (w64 (v229 + 1)) v240  _ hsx239 _ (by omega) hrx235 hxx236
    refine Wp.bk 3 [0, 1, 4, 5] 0 (Wp.sq (Wp.sq (Wp.rg (Ops.sg 2 2 ?_))))
    obtain ⟨v270, ev270, h⟩ := bnd_some h
    refine Ops.on 3 (fun h0 e0 => (ix_r (T := T) h0 62 82 2 .plain e81 a0 v229 v270 ev270 (by kernel_rfl) (by kernel_rfl) (fun _ => rfl))) ?_
    refine Ops.sg 3 6 ?_
    refine Ops.hv (fun KQ => ∀ (d273 d274 d275 d276 d277 d278 : D) (v279 v280 : Bool), f51_r7 m a0 v229 v230 v279 v280 = some sx238 → KQ 13 ⟨Zs11 a0 v229 v230 (.vptr [(vI v270.fPoint), (vB v270.fSign)]) (.vptr [(vB v270.fSign)]) v279 d273 d274 d275 d276 d277 d278 v280 (q20 []), []⟩) ?_ fun J51j281 => ?_
    ·intro d273 d274 d275 d276 d277 d278 v279 v280 h
     unfold f51_r7 at h
     refine Ops.dn (seqQ.n ?_)
     have J51j291 : ∀ (v282 : Int) (d283 d284 d285 d286 d287 d288 d289 d290 : D), f51_j6 m a0 v229 v279 v280 v282 = some sx238 → (seqQ (X51 n) (cR (cL (cL p51_0))) (blkQ (X51 n) 3 [0, 1, 4, 5] 0 (seqQ (X51 n) (cR p51_0) (lpQ (X51 n) [0, 1, 4, 5] 0 p51_0 nx233 (blkQ (X51 n) 2 [4] 0 (fnQ (X51 n).E.T (resOf Proofs.Tryd.prog 51) (eI o))))))) .normal ⟨Zs11 a0 v229 v282 (.vptr [(vI v270.fPoint), (vB v270.fSign)]) (.vptr [(vB v270.fSign)]) v279 d283 d284 d285 d286 d287 d288 v280 (d289::d290::q18 []), []⟩ := by
      intro v282 d283 d284 d285 d286 d287 d288 d289 d290 h
      unfold f51_j6 at h
      refine seqQ.n (Wp.sq (Wp.rg (Ops.sg 2 2 ?_)))
      obtain ⟨v292, ev292, h⟩ := bnd_some h
      refine Ops.on 3 (fun h0 e0 => (ix_r (T := T) h0 62 82 2 .plain e81 a0 v229 v292 ev292 (by kernel_rfl) (by kernel_rfl) (fun _ => rfl))) ?_
      refine Ops.sg 3 6 ?_
      refine Ops.hv (fun KQ => ∀ (d295 d296 d297 d298 d299 d300 : D) (v301 v302 : Bool), f51_r5 m v229 v279 v280 v282 v301 v302 = some sx238 → KQ 13 ⟨Zs11 a0 v229 v282 (.vptr [(vI v270.fPoint), (vB v270.fSign)]) (.vptr [(vB v270.fSign)]) v279 d283 d284 d285 d286 d287 d288 v280 (d289::d290::(dP e81 a0)::(dI v229)::(.vptr [(vI v292.fPoint), (vB v292.fSign)])::(.vptr [(vB v292.fSign)])::(dB v301)::(dB v301)::d295::d296::d297::d298::d299::d300::(dB v302)::q5 []), []⟩) ?_ fun J51j303 => ?_
      ·intro d295 d296 d297 d298 d299 d300 v301 v302 h
       unfold f51_r5 at h
       refine Ops.dn (seqQ.n ?_)
       have J51j323 : ∀ (v304 : Int) (d305 d306 d307 d308 d309 d310 d311 d312 d313 d314 d315 d316 d317 d318 d319 d320 d321 d322 : D), f51_j4 m v229 v279 v280 v301 v302 v304 = some sx238 → (blkQ (X51 n) 3 [0, 1, 4, 5] 0 (seqQ (X51 n) (cR p51_0) (lpQ (X51 n) [0, 1, 4, 5] 0 p51_0 nx233 (blkQ (X51 n) 2 [4] 0 (fnQ (X51 n).E.T (resOf Proofs.Tryd.prog 51) (eI o)))))) .normal ⟨Zs11 a0 v229 v304 (.vptr [(vI v270.fPoint), (vB v270.fSign)]) (.vptr [(vB v270.fSign)]) v279 d305 d306 d307 d308 d309 d310 v280 (d311::d312::(dP e81 a0)::(dI v229)::(.vptr [(vI v292.fPoint), (vB v292.fSign)])::(.vptr [(vB v292.fSign)])::(dB v301)::(dB v301)::d313::d314::d315::d316::d317::d318::(dB v302)::d319::d320::d321::d322::q1 []), []⟩ := by
        intro v304 d305 d306 d307 d308 d309 d310 d311 d312 d313 d314 d315 d316 d317 d318 d319 d320 d321 d322 h
        unfold f51_j4 at h
        refine blkQ.m ⟨Zs11 a0 v229 v304 (.vptr [(vI v270.fPoint), (vB v270.fSign)]) (.vptr [(vB v270.fSign)]) v279 d305 d306 d307 d308 d309 d310 v280 (d311::d312::(dP e81 a0)::(dI v229)::(.vptr [(vI v292.fPoint), (vB v292.fSign)])::(.vptr [(vB v292.fSign)])::(dB v301)::(dB v301)::d313::d314::d315::d316::d317::d318::(dB v302)::d319::d320::d321::d322::q1 []), []⟩ ?_
        exact J51j269 v304 v279 v279 v280 v301 v301 v302 _ _ _ _ _ _ _ _ _ _ _ _ _ _ _ _ _ _ _ _ _ _ h
       refine Wp.cd h [0, 1, 4, 5] 0 (fun h => ?_) (fun h => ?_)
       ·refine Wp.sq (Wp.rg (Ops.sg 3 3 (Ops.dn (seqQ.n (Wp.sq (Wp.rg (Ops.sg 2 2 (Ops.dn (seqQ.n ?_)))))))))
        refine Wp.cd h [0, 1, 4, 5] 0 (fun h => ?_) (fun h => ?_)
        ·refine Wp.sq (Wp.rg (Ops.sg 2 2 (Ops.dn (seqQ.n (Wp.rt (sqQ.r (sqQ.r (blkQ.r (seqQ.r ?_)))))))))
         cases h
         refine lpQ.r (blkQ.r ?_)
         exact hrx235 _ hsx239 _ (RetOk.forget [0, 1, 4, 5] (by kernel_rfl) (RetOk.mk' (dI v229) (by kernel_rfl) (by kernel_rfl)))
        ·refine Wp.sk (sqQ.n' (sqQ.m ⟨Zs11 a0 v229 (w64 (v282 - 1)) (.vptr [(vI v270.fPoint), (vB v270.fSign)]) (.vptr [(vB v270.fSign)]) v279 d283 d284 d285 d286 d287 d288 v280 (d289::d290::(dP e81 a0)::(dI v229)::(.vptr [(vI v292.fPoint), (vB v292.fSign)])::(.vptr [(vB v292.fSign)])::(dB v301)::(dB v301)::d295::d296::d297::d298::d299::d300::(dB v302)::(dI v282)::(dI (w64 (v282 - 1)))::(dI (w64 (v282 - 1)))::(dB ((w64 (v282 - 1)) == 0))::q1 []), []⟩ ?_))
         exact J51j323 (w64 (v282 - 1)) _ _ _ _ _ _ _ _ _ _ _ _ _ _ _ _ _ _ h
       ·refine Wp.sk (sqQ.m ⟨Zs11 a0 v229 v282 (.vptr [(vI v270.fPoint), (vB v270.fSign)]) (.vptr [(vB v270.fSign)]) v279 d283 d284 d285 d286 d287 d288 v280 (d289::d290::(dP e81 a0)::(dI v229)::(.vptr [(vI v292.fPoint), (vB v292.fSign)])::(.vptr [(vB v292.fSign)])::(dB v301)::(dB v301)::d295::d296::d297::d298::d299::d300::(dB v302)::q5 []), []⟩ ?_)
        exact J51j323 v282 _ _ _ _ _ _ _ _ _ _ _ _ _ _ _ _ _ _ h
      obtain ⟨v302, ev302, h⟩ := bnd_some h
      refine Ops.hv (fun KQ => ∀ v293 : Bool, (cnd v293 (bnd (idx a0 v229) fun v324 => some (v324.fPoint == 41)) (some false)) = some v302 → f51_r5 m v229 v279 v280 v282 v293 v302 = some sx238 → KQ 6 ⟨Zs11 a0 v229 v282 (.vptr [(vI v270.fPoint), (vB v270.fSign)]) (.vptr [(vB v270.fSign)]) v279 d283 d284 d285 d286 d287 d288 v280 (d289::d290::(dP e81 a0)::(dI v229)::(.vptr [(vI v292.fPoint), (vB v292.fSign)])::(.vptr [(vB v292.fSign)])::(dB v293)::(dB v293)::q12 []), []⟩) ?_ fun G51g294 => Ops.sx (G51g294 v292.fSign ev302 h)
      intro v293 ev302 h
      cases v293
      ·have ev302 := cnd_f ev302
       refine Ops.sg 7 13 ?_
       exact Ops.sx (J51j303 U U U U U U false false (some_sub (fun v302 => f51_r5 m v229 v279 v280 v282 false v302 = some sx238) ev302 h))
      ·have ev302 := cnd_t ev302
       refine Ops.sg 2 8 ?_
       obtain ⟨v324, ev324, ev302⟩ := bnd_some ev302
       refine Ops.on 9 (fun h0 e0 => (ix_r (T := T) h0 62 82 2 .plain e81 a0 v229 v324 ev324 (by kernel_rfl) (by kernel_rfl) (fun _ => rfl))) ?_
       refine Ops.sg 4 13 ?_
       exact Ops.sx (J51j303 (dP e81 a0) (dI v229) ((.vptr [(vI v324.fPoint), (vB v324.fSign)])) ((.vptr [(vI v324.fPoint), (vB v324.fSign)])) (dI v324.fPoint) (dB (v324.fPoint == 41)) true (v324.fPoint == 41) (some_sub (fun v302 => f51_r5 m v229 v279 v280 v282 true v302 = some sx238) ev302 h))
     refine Wp.cd h [0, 1, 4, 5] 0 (fun h => ?_) (fun h => ?_)
     ·refine Wp.rg (Ops.sg 3 3 (Ops.dn (sqQ.m ⟨Zs11 a0 v229 (w64 (v230 + 1)) (.vptr [(vI v270.fPoint), (vB v270.fSign)]) (.vptr [(vB v270.fSign)]) v279 d273 d274 d275 d276 d277 d278 v280 ((dI v230)::(dI (w64 (v230 + 1)))::q18 []), []⟩ ?_)))
      exact J51j291 (w64 (v230 + 1)) _ _ _ _ _ _ _ _ h
     ·refine Wp.sk (sqQ.m ⟨Zs11 a0 v229 v230 (.vptr [(vI v270.fPoint), (vB v270.fSign)]) (.vptr [(vB v270.fSign)]) v279 d273 d274 d275 d276 d277 d278 v280 (q20 []), []⟩ ?_)
      exact J51j291 v230 _ _ _ _ _ _ _ _ h
    obtain ⟨v280, ev280, h⟩ := bnd_some h
    refine Ops.hv (fun KQ => ∀ v271 : Bool, (cnd v271 (bnd (idx a0 v229) fun v325 => some (v325.fPoint == 40)) (some false)) = some v280 → f51_r7 m a0 v229 v230 v271 v280 = some sx238 → KQ 6 ⟨Zs35 a0 v229 ((dI v230)::q25 ((dP e81 a0)::(dI v229)::(.vptr [(vI v270.fPoint), (vB v270.fSign)])::(.vptr [(vB v270.fSign)])::(dB v271)::(dB v271)::q27 [])), []⟩) ?_ fun G51g272 => Ops.sx (G51g272 v270.fSign ev280 h)
    intro v271 ev280 h
    cases v271
    ·have ev280 := cnd_f ev280
     refine Ops.sg 7 13 ?_
     exact Ops.sx (J51j281 U U U U U U false false (some_sub (fun v280 => f51_r7 m a0 v229 v230 false v280 = some sx238) ev280 h))
    ·have ev280 := cnd_t ev280
     refine Ops.sg 2 8 ?_
     obtain ⟨v325, ev325, ev280⟩ := bnd_some ev280
     refine Ops.on 9 (fun h0 e0 => (ix_r (T := T) h0 62 82 2 .plain e81 a0 v229 v325 ev325 (by kernel_rfl) (by kernel_rfl) (fun _ => rfl))) ?_
     refine Ops.sg 4 13 ?_
     exact Ops.sx (J51j281 (dP e81 a0) (dI v229) ((.vptr [(vI v325.fPoint), (vB v325.fSign)])) ((.vptr [(vI v325.fPoint), (vB v325.fSign)])) (dI v325.fPoint) (dB (v325.fPoint == 40)) true (v325.fPoint == 40) (some_sub (fun v280 => f51_r7 m a0 v229 v230 true v280 = some sx238) ev280 h))
  refine Wp.loop' [0, 1, 4, 5] 0 (by kernel_rfl) ⟨Zs35 a0 a1 ((dI 0)::q40 (q18 [])), []⟩ (by kernel_rfl) ?_
  rcases brk_some h with ⟨r328, er328, h⟩ | ⟨y327, ey327, h⟩
  ·refine hLx326 _ a1 0  _ er328 n (by omega) (fun r er σ hσ => ?_) (fun y  ey => by cases ey)
   cases er
   exact fnQ.r' (X51 n) (fun z => (eI z)) h hσ
  ·refine hLx326 _ a1 0  _ ey327 n (by omega) (fun r er => by cases er) (fun y  ey => ?_)
   cases ey
   exact fnQ.n' (X51 n) (fun z => (eI z)) h (RetOk.mk' (dI 0) (by kernel_rfl) (by kernel_rfl))
noncomputable def f50_j1 (m : Nat) (v176 : (List (List S81))) (v177 : (List Int)) (v178 v179 : Int) : Option (Stp ((List (List S81)) × (List Int)) ((List (List S81)) × (List Int) × Int × Int)) :=
 some (.nxt (v176, v177, v178, w64 (v179 + 1)))
noncomputable def f50_j2 (m : Nat) (v228 : Int) (v238 : (List (List S81))) (v239 : (List Int)) (v240 : Int) : Option (Stp ((List (List S81)) × (List Int)) ((List (List S81)) × (List Int) × Int × Int)) :=
 some (.nxt (v238, v239, v240, w64 (v228 + 1)))
noncomputable def f50_j3 (m : Nat) (v228 : Int) (v244 : (List (List S81))) (v245 : (List Int)) (v246 : Int) : Option (Stp ((List (List S81)) × (List Int)) ((List (List S81)) × (List Int) × Int × Int)) :=
 f50_j2 m v228 v244 v245 v246
noncomputable def f50_B4 (m : Nat) (a0 : (List S81)) (a1 : (List Int)) (v166 : Int) (v225 : (List (List S81))) (v226 : (List Int)) (v227 v228 : Int) : Option (Stp ((List (List S81)) × (List Int)) ((List (List S81)) × (List Int) × Int × Int)) :=
 cnd (decide (v228 < (a1.length : Int)))
 (bnd (idx a1 v228) fun v242 =>
 bnd (idx a0 v166) fun v243 =>
 cnd (v243.fPoint == v242)
 (bnd (sub a0 v227 v166) fun v248 =>
 bnd (app 24 v225 [v248]) fun v249 =>
 bnd (app 8 v226 [v242]) fun v250 =>
 f50_j3 m v228 v249 v250 (w64 (v166 + 1)))
 (f50_j3 m v228 v225 v226 v227))
 (some (.brk (v225, v226, v227, v228)))
noncomputable def f50_r5 (m : Nat) (a0 : (List S81)) (a1 : (List Int)) (v163 : (List (List S81))) (v164 : (List Int)) (v165 v166 : Int) (v192 : Bool) : Option (Stp ((List (List S81)) × (List Int)) ((List (List S81)) × (List Int) × Int × Int)) :=
 cnd v192
 (bnd (f51 m a0 v166) fun v194 =>
 f50_j1 m v163 v164 v165 v194)
 (brk (iter (fun (y : (List (List S81)) × (List Int) × Int × Int) => f50_B4 m a0 a1 v166 y.1 y.2.1 y.2.2.1 y.2.2.2) m (v163, v164, v165, 0)) (fun r => some (.ret r)) fun y252 =>
 f50_j1 m y252.1 y252.2.1 y252.2.2.1 v166)
noncomputable def f50_B6 (m : Nat) (a0 : (List S81)) (a1 : (List Int)) (v163 : (List (List S81))) (v164 : (List Int)) (v165 v166 : Int) : Option (Stp ((List (List S81)) × (List Int)) ((List (List S81)) × (List Int) × Int × Int)) :=
 cnd (decide (v166 < (a0.length : Int)))
 (bnd (idx a0 v166) fun v181 =>
 cnd (!v181.fSign)
 (f50_j1 m v163 v164 v165 v166)
 (bnd (idx a0 v166) fun v182 =>
 bnd (cnd (v182.fPoint == 40)
 (some true)
 (bnd (idx a0 v166) fun v254 =>
 some (v254.fPoint == 91))) fun v192 =>
 f50_r5 m a0 a1 v163 v164 v165 v166 v192))
 (some (.brk (v163, v164, v165, v166)))
noncomputable def f50 (m : Nat) (a0 : (List S81)) (a1 : (List Int)) : Option ((List (List S81)) × (List Int)) :=
 brk (iter (fun (y : (List (List S81)) × (List Int) × Int × Int) => f50_B6 m a0 a1 y.1 y.2.1 y.2.2.1 y.2.2.2) m ([], [], 0, 0)) some fun y256 =>
 bnd (sub a0 y256.2.2.1 (a0.length : Int)) fun v258 =>
 bnd (app 24 y256.1 [v258]) fun v259 =>
 some ((v259, y256.2.1))
noncomputable abbrev X50 (n : Nat) : Cx := cxOf Proofs.Tryd.prog E 50 n
noncomputable def C50 : Code := bodyOf Proofs.Tryd.prog 50
noncomputable abbrev p50_0 : Code := cR (cR (cR C50))
noncomputable abbrev p50_1 : Code := cL (cL (cR (cL (cR (cR C50)))))
noncomputable abbrev p50_2 : Code := cR (cR p50_1)
noncomputable abbrev p50_3 : Code := cL (cL (cR (cR (cR (cL (cL (cR p50_1)))))))
noncomputable abbrev p50_4 : Code := cR (cR (cR p50_3))
noncomputable abbrev k50_0 : List Nat := [0, 1, 4, 5, 6, 7]
noncomputable abbrev k50_1 : List Nat := [0, 1, 4, 5, 6, 7, 39, 40, 41]
theorem ok50 (m : Nat) (a0 : (List S81)) (a1 : (List Int)) (o : ((List (List S81)) × (List Int))) (h : f50 m a0 a1 = some o) (n : Nat) (hn : m + 2 ≤ n) : Fn Proofs.Tryd.prog E n 50 [.v ((eL e81) a0), .v ((eL eI) a1)] (.tuple [(eL (eL e81)) o.1, (eL eI) o.2]) := by
 obtain ⟨n, rfl⟩ : ∃ q, n = q + 1 := ⟨n - 1, by omega⟩
 unfold f50 at h
 refine Fn.of (by kernel_rfl) (by kernel_rfl) (by kernel_rfl) ⟨(dP e81 a0)::(dP eI a1)::u40 (u31 []), []⟩ (by kernel_rfl) (Wp.sq (Wp.rg (Ops.sg 2 2 (Ops.dn (seqQ.n (Wp.sq (Wp.rg (Ops.sg 1 1 (Ops.dn (seqQ.n (Wp.sq (Wp.sq (Wp.rg (Ops.sg 1 1 (Ops.dn (seqQ.n (Wp.bk 0 [0, 4, 5, 6] 0 ?_)))))))))))))))))
 have hLx255 : ∀ (kx168 : Nat) (v163 : (List (List S81))) (v164 : (List Int)) (v165 v166 : Int)  (ox167 : ((List (List S81)) × (List Int)) ⊕ ((List (List S81)) × (List Int) × Int × Int)), iter (fun (y : (List (List S81)) × (List Int) × Int × Int) => f50_B6 m a0 a1 y.1 y.2.1 y.2.2.1 y.2.2.2) kx168 (v163, v164, v165, v166) = some ox167 → ∀ nx169, kx168 ≤ nx169 → (∀ r, ox167 = .inl r → ∀ σ, RetOk (X50 n) (resOf Proofs.Tryd.prog 50) (.tuple [(eL (eL e81)) r.1, (eL eI) r.2]) σ → (seqQ (X50 n) p50_0 (fnQ (X50 n).E.T (resOf Proofs.Tryd.prog 50) (.tuple [(eL (eL e81)) o.1, (eL eI) o.2]))) .ret σ) → (∀ (y : (List (List S81)) × (List Int) × Int × Int) , ox167 = .inr y → (seqQ (X50 n) p50_0 (fnQ (X50 n).E.T (resOf Proofs.Tryd.prog 50) (.tuple [(eL (eL e81)) o.1, (eL eI) o.2]))) .normal ⟨(dP e81 a0)::q3 ((appD 0 (List.map (eL e81) y.1))::(appD 1 (List.map eI y.2.1))::(dI y.2.2.1)::q40 (q26 [])), [(appO 1 (List.map (eL e81) y.1)), (appO 1 (List.map eI y.2.1))]⟩) → Lp (X50 n) k50_0 0 p50_1 nx169 ⟨(dP e81 a0)::(dP eI a1)::q2 ((appD 0 (List.map (eL e81) v163))::(appD 1 (List.map eI v164))::(dI v165)::(dI v166)::q40 (q25 [])), [(appO 1 (List.map (eL e81) v163)), (appO 1 (List.map eI v164))]⟩ (blkQ (X50 n) 0 [0, 4, 5, 6] 0 (seqQ (X50 n) p50_0 (fnQ (X50 n).E.T (resOf Proofs.Tryd.prog 50) (.tuple [(eL (eL e81)) o.1, (eL eI) o.2])))) := by
  intro kx168
  induction kx168 with
  | zero => intro v163 v164 v165 v166  ox167 h; exact (iter_zero h).elim
  | succ kx168 ihx170 =>
   intro v163 v164 v165 v166  ox167 h nx169 hnx173 hrx171 hxx172
   obtain ⟨nx169, rfl⟩ : ∃ q, nx169 = q + 1 := ⟨nx169 - 1, by omega⟩
   obtain ⟨sx174, h, hsx175⟩ := iter_some h
   have h : f50_B6 m a0 a1 v163 v164 v165 v166 = some sx174 := h
   unfold f50_B6 at h
   refine Lp.succ (Wp.sq (Wp.sq (Wp.rg (Ops.sg 2 2 ?_))))
   refine Ops.on 3 (fun h0 e0 => (len_r (T := T) h0 62 82 .plain e81 a0 (by kernel_rfl))) ?_
   refine Ops.sg 1 4 (Ops.dn (seqQ.n ?_))
   refine Wp.cd h k50_0 2 (fun h => ?_) (fun h => ?_)
   ·refine Wp.sk (sqQ.n ⟨(dP e81 a0)::(dP eI a1)::q2 ((appD 2 (List.map (eL e81) v163))::(appD 3 (List.map eI v164))::(dI v165)::(dI v166)::q40 (q25 [])), [.dead, .dead, (appO 1 (List.map (eL e81) v163)), (appO 1 (List.map eI v164))]⟩ (squash_ph [.ap 4 0 1 .nil (List.map (eL e81) v163), .ap 5 1 1 .nil (List.map eI v164)] (by kernel_rfl) (by kernel_rfl) (by kernel_rfl)) (seqQ.n (Wp.sq ?_)))
    have J50j180 : ∀ (v176 : (List (List S81))) (v177 : (List Int)) (v178 v179 : Int) , f50_j1 m v176 v177 v178 v179 = some sx174 → (seqQ (X50 n) p50_2 (lpQ (X50 n) k50_0 0 p50_1 nx169 (blkQ (X50 n) 0 [0, 4, 5, 6] 0 (seqQ (X50 n) p50_0 (fnQ (X50 n).E.T (resOf Proofs.Tryd.prog 50) (.tuple [(eL (eL e81)) o.1, (eL eI) o.2])))))) .normal ⟨Zs20 a0 a1 v176 v177 v178 v179 (q40 (q25 [])), (dd 4 [(appO 1 (List.map (eL e81) v176)), (appO 1 (List.map eI v177))])⟩ := by
     intro v176 v177 v178 v179  h
     unfold f50_j1 at h
     refine seqQ.n (Wp.rg (Ops.sg 3 3 (Ops.dn (lpQ.n ⟨(dP e81 a0)::(dP eI a1)::q2 ((appD 0 (List.map (eL e81) v176))::(appD 1 (List.map eI v177))::(dI v178)::(dI (w64 (v179 + 1)))::q40 (q25 [])), [(appO 1 (List.map (eL e81) v176)), (appO 1 (List.map eI v177))]⟩ (squash_ph [.ap 4 4 1 .nil (List.map (eL e81) v176), .ap 5 5 1 .nil (List.map eI v177)] (by kernel_rfl) (by kernel_rfl) (by kernel_rfl)) ?_))))
     cases h
     exact ihx170 v176 v177 v178 (w64 (v179 + 1))  _ hsx175 _ (by omega) hrx171 hxx172
    refine Wp.bk 1 k50_0 4 (Wp.sq (Wp.sq (Wp.rg (Ops.sg 2 2 ?_))))
    obtain ⟨v181, ev181, h⟩ := bnd_some h
    refine Ops.on 3 (fun h0 e0 => (ix_r (T := T) h0 62 82 2 .plain e81 a0 v166 v181 ev181 (by kernel_rfl) (by kernel_rfl) (fun _ => rfl))) ?_
    refine Ops.sg 3 6 (Ops.dn (seqQ.n ?_))
    refine Wp.cd h k50_0 4 (fun h => ?_) (fun h => ?_)
    ·refine Wp.ex 1 (sqQ.x (seqQ.x (blkQ.x ⟨Zs20 a0 a1 v163 v164 v165 v166 (q40 (q25 [])), (dd 4 [(appO 1 (List.map (eL e81) v163)), (appO 1 (List.map eI v164))])⟩ (squash_ph [.ap 4 2 1 .nil (List.map (eL e81) v163), .ap 5 3 1 .nil (List.map eI v164)] (by kernel_rfl) (by kernel_rfl) (by kernel_rfl)) ?_)))
     exact J50j180 v163 v164 v165 v166  h
    ·refine Wp.sk (sqQ.n ⟨Zs20 a0 a1 v163 v164 v165 v166 (q40 (q25 [])), (dd 4 [(appO 1 (List.map (eL e81) v163)), (appO 1 (List.map eI v164))])⟩ (squash_ph [.ap 4 2 1 .nil (List.map (eL e81) v163), .ap 5 3 1 .nil (List.map eI v164)] (by kernel_rfl) (by kernel_rfl) (by kernel_rfl)) (seqQ.n (Wp.sq (Wp.sq (Wp.rg (Ops.sg 2 2 ?_))))))
     obtain ⟨v182, ev182, h⟩ := bnd_some h
     refine Ops.on 3 (fun h0 e0 => (ix_r (T := T) h0 62 82 2 .plain e81 a0 v166 v182 ev182 (by kernel_rfl) (by kernel_rfl) (fun _ => rfl))) ?_
     refine Ops.sg 4 7 ?_
     refine Ops.hv (fun KQ => ∀ (d185 d186 d187 d188 d189 d190 : D) (v191 v192 : Bool), f50_r5 m a0 a1 v163 v164 v165 v166 v192 = some sx174 → KQ 14 ⟨Zs20 a0 a1 v163 v164 v165 v166 (q14 ((dP e81 a0)::(dI v166)::(.vptr [(vI v182.fPoint), (vB v182.fSign)])::(.vptr [(vI v182.fPoint), (vB v182.fSign)])::(dI v182.fPoint)::(dB v191)::(dB v191)::d185::d186::d187::d188::d189::d190::(dB v192)::q37 [])), (dd 4 [(appO 1 (List.map (eL e81) v163)), (appO 1 (List.map eI v164))])⟩) ?_ fun J50j193 => ?_
     ·intro d185 d186 d187 d188 d189 d190 v191 v192 h
      unfold f50_r5 at h
      refine Ops.dn (seqQ.n ?_)
      refine Wp.cd h k50_0 6 (fun h => ?_) (fun h => ?_)
      ·refine Wp.sq (Wp.rg (Ops.sg 2 2 ?_))
       obtain ⟨v194, ev194, h⟩ := bnd_some h
       refine Ops.on 3 (fun h0 e0 => (call_ok (E' := E) (h := h0) (by kernel_rfl) (Args.v (vP e81 a0) ((eL e81) a0) (by kernel_rfl) (Args.v (vI v166) (eI v166) (by kernel_rfl) Args.nil)) (ok51 m a0 v166 v194 ev194 n (by omega)))) ?_
       refine Ops.sg 1 4 (Ops.dn (seqQ.n (Wp.ex 1 (sqQ.x (seqQ.x (blkQ.x ⟨Zs20 a0 a1 v163 v164 v165 v194 (q40 (q25 [])), (dd 4 [(appO 1 (List.map (eL e81) v163)), (appO 1 (List.map eI v164))])⟩ (squash_ph [.ap 4 4 1 .nil (List.map (eL e81) v163), .ap 5 5 1 .nil (List.map eI v164)] (by kernel_rfl) (by kernel_rfl) (by kernel_rfl)) ?_))))))
       exact J50j180 v163 v164 v165 v194  h
      ·refine Wp.sk (sqQ.n ⟨(dP e81 a0)::(dP eI a1)::q2 ((appD 6 (List.map (eL e81) v163))::(appD 7 (List.map eI v164))::(dI v165)::(dI v166)::q40 (q25 [])), (dd 6 [(appO 1 (List.map (eL e81) v163)), (appO 1 (List.map eI v164))])⟩ (squash_ph [.ap 4 4 1 .nil (List.map (eL e81) v163), .ap 5 5 1 .nil (List.map eI v164)] (by kernel_rfl) (by kernel_rfl) (by kernel_rfl)) (seqQ.n (Wp.sq (Wp.rg (Ops.sg 1 1 ?_)))))
       refine Ops.on 2 (fun h0 e0 => (len_r (T := T) h0 22 3 .plain eI a1 (by kernel_rfl))) ?_
       refine Ops.sg 1 3 (Ops.dn (seqQ.n (Wp.bk 2 k50_0 8 ?_)))
       have hLx251 : ∀ (kx230 : Nat) (v225 : (List (List S81))) (v226 : (List Int)) (v227 v228 : Int)  (ox229 : ((List (List S81)) × (List Int)) ⊕ ((List (List S81)) × (List Int) × Int × Int)), iter (fun (y : (List (List S81)) × (List Int) × Int × Int) => f50_B4 m a0 a1 v166 y.1 y.2.1 y.2.2.1 y.2.2.2) kx230 (v225, v226, v227, v228) = some ox229 → ∀ nx231, kx230 ≤ nx231 → (∀ r, ox229 = .inl r → ∀ σ, RetOk (X50 n) (resOf Proofs.Tryd.prog 50) (.tuple [(eL (eL e81)) r.1, (eL eI) r.2]) σ → (blkQ (X50 n) 1 k50_0 4 (seqQ (X50 n) p50_2 (lpQ (X50 n) k50_0 0 p50_1 nx169 (blkQ (X50 n) 0 [0, 4, 5, 6] 0 (seqQ (X50 n) p50_0 (fnQ (X50 n).E.T (resOf Proofs.Tryd.prog 50) (.tuple [(eL (eL e81)) o.1, (eL eI) o.2]))))))) .ret σ) → (∀ (y : (List (List S81)) × (List Int) × Int × Int) , ox229 = .inr y → (blkQ (X50 n) 1 k50_0 4 (seqQ (X50 n) p50_2 (lpQ (X50 n) k50_0 0 p50_1 nx169 (blkQ (X50 n) 0 [0, 4, 5, 6] 0 (seqQ (X50 n) p50_0 (fnQ (X50 n).E.T (resOf Proofs.Tryd.prog 50) (.tuple [(eL (eL e81)) o.1, (eL eI) o.2]))))))) .normal ⟨Zs32 a0 a1 y.1 y.2.1 y.2.2.1 v166 (q40 (q25 [])), (dd 8 [(appO 1 (List.map (eL e81) y.1)), (appO 1 (List.map eI y.2.1))])⟩) → Lp (X50 n) k50_1 8 p50_3 nx231 ⟨Zs32 a0 a1 v225 v226 v227 v166 (q31 ((dP eI a1)::(dI (a1.length : Int))::(dI v228)::q31 [])), (dd 8 [(appO 1 (List.map (eL e81) v225)), (appO 1 (List.map eI v226))])⟩ (blkQ (X50 n) 2 k50_0 8 (blkQ (X50 n) 1 k50_0 4 (seqQ (X50 n) p50_2 (lpQ (X50 n) k50_0 0 p50_1 nx169 (blkQ (X50 n) 0 [0, 4, 5, 6] 0 (seqQ (X50 n) p50_0 (fnQ (X50 n).E.T (resOf Proofs.Tryd.prog 50) (.tuple [(eL (eL e81)) o.1, (eL eI) o.2])))))))) := by
        intro kx230
        induction kx230 with
        | zero => intro v225 v226 v227 v228  ox229 h; exact (iter_zero h).elim
        | succ kx230 ihx232 =>
         intro v225 v226 v227 v228  ox229 h nx231 hnx235 hrx233 hxx234
         obtain ⟨nx231, rfl⟩ : ∃ q, nx231 = q + 1 := ⟨nx231 - 1, by omega⟩
         obtain ⟨sx236, h, hsx237⟩ := iter_some h
         have h : f50_B4 m a0 a1 v166 v225 v226 v227 v228 = some sx236 := h
         unfold f50_B4 at h
         refine Lp.succ (Wp.sq (Wp.rg (Ops.sg 1 1 (Ops.dn (seqQ.n (Wp.sq ?_))))))
         refine Wp.cd h k50_1 10 (fun h => ?_) (fun h => ?_)
         ·refine Wp.sk (sqQ.n ⟨(dP e81 a0)::(dP eI a1)::q2 ((appD 10 (List.map (eL e81) v225))::(appD 11 (List.map eI v226))::(dI v227)::(dI v166)::q31 ((dP eI a1)::(dI (a1.length : Int))::(dI v228)::q31 [])), (dd 10 [(appO 1 (List.map (eL e81) v225)), (appO 1 (List.map eI v226))])⟩ (squash_ph [.ap 4 8 1 .nil (List.map (eL e81) v225), .ap 5 9 1 .nil (List.map eI v226)] (by kernel_rfl) (by kernel_rfl) (by kernel_rfl)) (seqQ.n (Wp.sq ?_)))
          have J50j241 : ∀ (v238 : (List (List S81))) (v239 : (List Int)) (v240 : Int) , f50_j2 m v228 v238 v239 v240 = some sx236 → (seqQ (X50 n) p50_4 (lpQ (X50 n) k50_1 8 p50_3 nx231 (blkQ (X50 n) 2 k50_0 8 (blkQ (X50 n) 1 k50_0 4 (seqQ (X50 n) p50_2 (lpQ (X50 n) k50_0 0 p50_1 nx169 (blkQ (X50 n) 0 [0, 4, 5, 6] 0 (seqQ (X50 n) p50_0 (fnQ (X50 n).E.T (resOf Proofs.Tryd.prog 50) (.tuple [(eL (eL e81)) o.1, (eL eI) o.2])))))))))) .normal ⟨Zs22 a0 a1 v238 v239 v240 v166 (a1.length : Int) v228 [], (dd 12 [(appO 1 (List.map (eL e81) v238)), (appO 1 (List.map eI v239))])⟩ := by
           intro v238 v239 v240  h
           unfold f50_j2 at h
           refine seqQ.n (Wp.rg (Ops.sg 2 2 (Ops.dn (lpQ.n ⟨Zs32 a0 a1 v238 v239 v240 v166 (q31 ((dP eI a1)::(dI (a1.length : Int))::(dI (w64 (v228 + 1)))::q31 [])), (dd 8 [(appO 1 (List.map (eL e81) v238)), (appO 1 (List.map eI v239))])⟩ (squash_ph [.ap 4 12 1 .nil (List.map (eL e81) v238), .ap 5 13 1 .nil (List.map eI v239)] (by kernel_rfl) (by kernel_rfl) (by kernel_rfl)) ?_))))
           cases h
           exact ihx232 v238 v239 v240 (w64 (v228 + 1))  _ hsx237 _ (by omega) hrx233 hxx234
          refine Wp.bk 3 k50_1 12 (Wp.sq (Wp.rg ?_))
          obtain ⟨v242, ev242, h⟩ := bnd_some h
          refine Ops.on 1 (fun h0 e0 => (ix_r (T := T) h0 22 3 1 .plain eI a1 v228 v242 ev242 (by kernel_rfl) (by kernel_rfl) (fun _ => rfl))) ?_
          refine Ops.sg 2 3 (Ops.dn (seqQ.n (Wp.sq (Wp.rg (Ops.sg 2 2 ?_)))))
          obtain ⟨v243, ev243, h⟩ := bnd_some h
          refine Ops.on 3 (fun h0 e0 => (ix_r (T := T) h0 62 82 2 .plain e81 a0 v166 v243 ev243 (by kernel_rfl) (by kernel_rfl) (fun _ => rfl))) ?_
          refine Ops.sg 4 7 (Ops.dn (seqQ.n ?_))
          have J50j247 : ∀ (v244 : (List (List S81))) (v245 : (List Int)) (v246 : Int) , f50_j3 m v228 v244 v245 v246 = some sx236 → (blkQ (X50 n) 3 k50_1 12 (seqQ (X50 n) p50_4 (lpQ (X50 n) k50_1 8 p50_3 nx231 (blkQ (X50 n) 2 k50_0 8 (blkQ (X50 n) 1 k50_0 4 (seqQ (X50 n) p50_2 (lpQ (X50 n) k50_0 0 p50_1 nx169 (blkQ (X50 n) 0 [0, 4, 5, 6] 0 (seqQ (X50 n) p50_0 (fnQ (X50 n).E.T (resOf Proofs.Tryd.prog 50) (.tuple [(eL (eL e81)) o.1, (eL eI) o.2]))))))))))) .normal ⟨Zs22 a0 a1 v244 v245 v246 v166 (a1.length : Int) v228 [], (dd 12 [(appO 1 (List.map (eL e81) v244)), (appO 1 (List.map eI v245))])⟩ := by
           intro v244 v245 v246  h
           unfold f50_j3 at h
           refine blkQ.n ⟨Zs22 a0 a1 v244 v245 v246 v166 (a1.length : Int) v228 [], (dd 12 [(appO 1 (List.map (eL e81) v244)), (appO 1 (List.map eI v245))])⟩ (squash_ph [.ap 4 12 1 .nil (List.map (eL e81) v244), .ap 5 13 1 .nil (List.map eI v245)] (by kernel_rfl) (by kernel_rfl) (by kernel_rfl)) ?_
           exact J50j241 v244 v245 v246  h
          refine Wp.cd h k50_1 12 (fun h => ?_) (fun h => ?_)
          ·refine Wp.sq (Wp.rg (Ops.sg 4 4 ?_))
           obtain ⟨v248, ev248, h⟩ := bnd_some h
           refine Ops.on 5 (fun h0 e0 => (sub_r (T := T) h0 62 82 2 .plain e81 a0 v248 (some v227) (some v166) rfl ev248 (by kernel_rfl) (by kernel_rfl) (fun _ => rfl))) ?_
           refine Ops.sg 1 6 ?_
           obtain ⟨v249, ev249, h⟩ := bnd_some h
           refine Ops.on 7 (fun h0 e0 => (app_r (T := T) (g := .nil) h0 83 62 10 1 ti62 .nonfull (eL e81) v225 [v248] v249 ev249 (by kernel_rfl) (by kernel_rfl) (by kernel_rfl) (by kernel_rfl) (fun _ => rfl) (hq_of e0 (by kernel_rfl)))) ?_
           refine Ops.sg 1 8 (Ops.dn (seqQ.n (Wp.sq (Wp.rg (Ops.sg 3 3 ?_)))))
           obtain ⟨v250, ev250, h⟩ := bnd_some h
           refine Ops.on 4 (fun h0 e0 => (app_r (T := T) (g := .nil) h0 22 3 11 1 ti3 .nonfull eI v226 [v242] v250 ev250 (by kernel_rfl) (by kernel_rfl) (by kernel_rfl) (by kernel_rfl) (fun _ => rfl) (hq_of e0 (by kernel_rfl)))) ?_
           refine Ops.sg 1 5 (Ops.dn (seqQ.n (Wp.rg (Ops.sg 3 3 (Ops.dn (sqQ.n ⟨Zs22 a0 a1 v249 v250 (w64 (v166 + 1)) v166 (a1.length : Int) v228 [], (dd 12 [(appO 1 (List.map (eL e81) v249)), (appO 1 (List.map eI v250))])⟩ (squash_ph [.ap 4 12 1 .nil (List.map (eL e81) v249), .ap 5 13 1 .nil (List.map eI v250)] (by kernel_rfl) (by kernel_rfl) (by kernel_rfl)) ?_))))))
           exact J50j247 v249 v250 (w64 (v166 + 1))  h
          ·refine Wp.sk (sqQ.n ⟨Zs22 a0 a1 v225 v226 v227 v166 (a1.length : Int) v228 [], (dd 12 [(appO 1 (List.map (eL e81) v225)), (appO 1 (List.map eI v226))])⟩ (squash_ph [.ap 4 10 1 .nil (List.map (eL e81) v225), .ap 5 11 1 .nil (List.map eI v226)] (by kernel_rfl) (by kernel_rfl) (by kernel_rfl)) ?_)
           exact J50j247 v225 v226 v227  h
         ·refine Wp.ex 2 (sqQ.x (seqQ.x ?_))
          cases h
          refine lpQ.x (blkQ.x ⟨Zs32 a0 a1 v225 v226 v227 v166 (q40 (q25 [])), (dd 8 [(appO 1 (List.map (eL e81) v225)), (appO 1 (List.map eI v226))])⟩ (squash_ph [.ap 4 8 1 .nil (List.map (eL e81) v225), .ap 5 9 1 .nil (List.map eI v226)] (by kernel_rfl) (by kernel_rfl) (by kernel_rfl)) ?_)
          exact hxx234 (v225, v226, v227, v228)  hsx237
       refine Wp.loop' k50_1 8 (by kernel_rfl) ⟨Zs32 a0 a1 v163 v164 v165 v166 (q31 ((dP eI a1)::(dI (a1.length : Int))::(dI 0)::q31 [])), (dd 8 [(appO 1 (List.map (eL e81) v163)), (appO 1 (List.map eI v164))])⟩ (squash_ph [.ap 4 6 1 .nil (List.map (eL e81) v163), .ap 5 7 1 .nil (List.map eI v164)] (by kernel_rfl) (by kernel_rfl) (by kernel_rfl)) ?_
       rcases brk_some h with ⟨r253, er253, h⟩ | ⟨y252, ey252, h⟩
       ·refine hLx251 _ v163 v164 v165 0  _ er253 n (by omega) (fun r er σ hσ => ?_) (fun y  ey => by cases ey)
        cases er
        refine blkQ.r (seqQ.r (lpQ.r ?_))
        cases h
        refine blkQ.r ?_
        exact hrx171 _ hsx175 _ (RetOk.forget k50_0 (by kernel_rfl) hσ)
       ·refine hLx251 _ v163 v164 v165 0  _ ey252 n (by omega) (fun r er => by cases er) (fun y  ey => ?_)
        cases ey
        refine blkQ.n ⟨Zs20 a0 a1 y252.1 y252.2.1 y252.2.2.1 v166 (q40 (q25 [])), (dd 4 [(appO 1 (List.map (eL e81) y252.1)), (appO 1 (List.map eI y252.2.1))])⟩ (squash_ph [.ap 4 8 1 .nil (List.map (eL e81) y252.1), .ap 5 9 1 .nil (List.map eI y252.2.1)] (by kernel_rfl) (by kernel_rfl) (by kernel_rfl)) ?_
        exact J50j180 y252.1 y252.2.1 y252.2.2.1 v166  h
     obtain ⟨v192, ev192, h⟩ := bnd_some h
     refine Ops.hv (fun KQ => ∀ v183 : Bool, (cnd v183 (some true) (bnd (idx a0 v166) fun v254 => some (v254.fPoint == 91))) = some v192 → KQ 7 ⟨Zs20 a0 a1 v163 v164 v165 v166 (q14 ((dP e81 a0)::(dI v166)::(.vptr [(vI v182.fPoint), (vB v182.fSign)])::(.vptr [(vI v182.fPoint), (vB v182.fSign)])::(dI v182.fPoint)::(dB v183)::(dB v183)::q40 (q4 []))), (dd 4 [(appO 1 (List.map (eL e81) v163)), (appO 1 (List.map eI v164))])⟩) ?_ fun G50g184 => Ops.sx (G50g184 (v182.fPoint == 40) ev192)
     intro v183 ev192
     cases v183
     ·have ev192 := cnd_f ev192
      refine Ops.sg 2 9 ?_
      obtain ⟨v254, ev254, ev192⟩ := bnd_some ev192
      refine Ops.on 10 (fun h0 e0 => (ix_r (T := T) h0 62 82 2 .plain e81 a0 v166 v254 ev254 (by kernel_rfl) (by kernel_rfl) (fun _ => rfl))) ?_
      refine Ops.sg 4 14 ?_
      exact Ops.sx (J50j193 (dP e81 a0) (dI v166) ((.vptr [(vI v254.fPoint), (vB v254.fSign)])) ((.vptr [(vI v254.fPoint), (vB v254.fSign)])) (dI v254.fPoint) (dB (v254.fPoint == 91)) false (v254.fPoint == 91) (some_sub (fun v192 => f50_r5 m a0 a1 v163 v164 v165 v166 v192 = some sx174) ev192 h))
     ·have ev192 := cnd_t ev192
      refine Ops.sg 7 14 ?_
      exact Ops.sx (J50j193 U U U U U U true true (some_sub (fun v192 => f50_r5 m a0 a1 v163 v164 v165 v166 v192 = some sx174) ev192 h))
   ·refine Wp.ex 0 (sqQ.x (seqQ.x ?_))
    cases h
    refine lpQ.x (blkQ.x ⟨(dP e81 a0)::q3 ((appD 0 (List.map (eL e81) v163))::(appD 1 (List.map eI v164))::(dI v165)::q40 (q26 [])), [(appO 1 (List.map (eL e81) v163)), (appO 1 (List.map eI v164))]⟩ (squash_ph [.ap 4 0 1 .nil (List.map (eL e81) v163), .ap 5 1 1 .nil (List.map eI v164)] (by kernel_rfl) (by kernel_rfl) (by kernel_rfl)) ?_)
    exact hxx172 (v163, v164, v165, v166)  hsx175
 refine Wp.loop' k50_0 0 (by kernel_rfl) ⟨(dP e81 a0)::(dP eI a1)::q2 ((appD 0 (List.map (eL e81) []))::(appD 1 (List.map eI []))::(dI 0)::(dI 0)::q40 (q25 [])), [.dead, .dead]⟩ (by kernel_rfl) ?_
 rcases brk_some h with ⟨r257, er257, h⟩ | ⟨y256, ey256, h⟩
 ·refine hLx255 _ [] [] 0 0  _ er257 n (by omega) (fun r er σ hσ => ?_) (fun y  ey => by cases ey)
  cases er
  refine seqQ.r ?_
  exact fnQ.r' (X50 n) (fun z => (.tuple [(eL (eL e81)) z.1, (eL eI) z.2])) h hσ
 ·refine hLx255 _ [] [] 0 0  _ ey256 n (by omega) (fun r er => by cases er) (fun y  ey => ?_)
  cases ey
  refine seqQ.n (Wp.sq (Wp.rg (Ops.sg 3 3 ?_)))
  obtain ⟨v258, ev258, h⟩ := bnd_some h
  refine Ops.on 4 (fun h0 e0 => (sub_r (T := T) h0 62 82 2 .plain e81 a0 v258 (some y256.2.2.1) none rfl ev258 (by kernel_rfl) (by kernel_rfl) (fun _ => rfl))) ?_
  refine Ops.sg 1 5 ?_
  obtain ⟨v259, ev259, h⟩ := bnd_some h
  refine Ops.on 6 (fun h0 e0 => (app_r (T := T) (g := .nil) h0 83 62 0 1 ti62 .nonfull (eL e81) y256.1 [v258] v259 ev259 (by kernel_rfl) (by kernel_rfl) (by kernel_rfl) (by kernel_rfl) (fun _ => rfl) (hq_of e0 (by kernel_rfl)))) ?_
  refine Ops.sg 3 9 (Ops.dn (seqQ.n (Wp.rt ?_)))
  exact fnQ.r' (X50 n) (fun z => (.tuple [(eL (eL e81)) z.1, (eL eI) z.2])) h (RetOk.tup [(appD 2 (List.map (eL e81) v259)), (appD 1 (List.map eI y256.2.1))] (by kernel_rfl) (.d (appD 2 (List.map (eL e81) v259)) _ (appD_frz _ _ _ _) (appF_nt _ _ _) (.d (appD 1 (List.map eI y256.2.1)) _ (appD_frz _ _ _ _) (appF_nt _ _ _) .nil)))
noncomputable def f52_j1 (m : Nat) (v151 : Int) (v161 : (List Int)) : Option (Stp (List Int) ((List Int) × Int)) :=
 some (.nxt (v161, w64 (v151 + 1)))
noncomputable def f52_r2 (m : Nat) (v189 : Int) (v208 : Bool) : Option (Stp (List Int) (Int)) :=
 cnd v208
 (some (.nxt (w64 (v189 + 1))))
 (some (.brk v189))
noncomputable def f52_B3 (m : Nat) (v150 : (List Int)) (v163 v189 : Int) : Option (Stp (List Int) (Int)) :=
 bnd (cnd (decide (v189 < (v150.length : Int)))
 (bnd (idx v150 v189) fun v210 =>
 some (decide (v210 < v163)))
 (some false)) fun v208 =>
 f52_r2 m v189 v208
noncomputable def f52_j4 (m : Nat) (v151 : Int) (v225 : (List Int)) : Option (Stp (List Int) ((List Int) × Int)) :=
 f52_j1 m v151 v225
noncomputable def f52_r5 (m : Nat) (v150 : (List Int)) (v151 v163 y212 : Int) (v223 : Bool) : Option (Stp (List Int) ((List Int) × Int)) :=
 cnd v223
 (bnd (sub v150 0 y212) fun v228 =>
 bnd (app 8 [] v228) fun v229 =>
 bnd (app 8 v229 [v163]) fun v230 =>
 bnd (sub v150 y212 (v150.length : Int)) fun v231 =>
 bnd (app 8 v230 v231) fun v232 =>
 f52_j4 m v151 v232)
 (f52_j4 m v151 v150)
noncomputable def f52_B6 (m : Nat) (a1 v150 : (List Int)) (v151 : Int) : Option (Stp (List Int) ((List Int) × Int)) :=
 cnd (decide (v151 < (a1.length : Int)))
 (bnd (idx a1 v151) fun v163 =>
 brk (iter (fun (y : Int) => f52_B3 m v150 v163 y) m 0) (fun r => some (.ret r)) fun y212 =>
 bnd (cnd (y212 == (v150.length : Int))
 (some true)
 (bnd (idx v150 y212) fun v233 =>
 some (v233 != v163))) fun v223 =>
 f52_r5 m v150 v151 v163 y212 v223)
 (some (.brk (v150, v151)))
noncomputable def f52 (m : Nat) (a0 a1 : (List Int)) : Option (List Int) :=
 bnd (app 8 [] a0) fun v1 =>
 brk (iter (fun (y : (List Int) × Int) => f52_B6 m a1 y.1 y.2) m (v1, 0)) some fun y235 =>
 some y235.1
noncomputable abbrev X52 (n : Nat) : Cx := cxOf Proofs.Tryd.prog E 52 n
noncomputable def C52 : Code := bodyOf Proofs.Tryd.prog 52
noncomputable abbrev p52_0 : Code := cR (cR (cR C52))
noncomputable abbrev p52_1 : Code := cL (cL (cR (cL (cR (cR C52)))))
noncomputable abbrev p52_2 : Code := cR (cR (cR p52_1))
noncomputable abbrev p52_3 : Code := cR (cR (cR (cL (cL (cR (cR p52_1))))))
noncomputable abbrev k52_0 : List Nat := [4, 5, 12, 13, 14]
noncomputable abbrev k52_1 : List Nat := [4, 5, 7, 8, 12, 13, 14]
theorem ok52 (m : Nat) (a0 a1 o : (List Int)) (h : f52 m a0 a1 = some o) (n : Nat) (hn : m + 1 ≤ n) : Fn Proofs.Tryd.prog E n 52 [.v ((eL eI) a0), .v ((eL eI) a1)] ((eL eI) o) := by
 obtain ⟨n, rfl⟩ : ∃ q, n = q + 1 := ⟨n - 1, by omega⟩
 unfold f52 at h
 refine Fn.of (by kernel_rfl) (by kernel_rfl) (by kernel_rfl) ⟨(dP eI a0)::(dP eI a1)::u40 (u16 []), []⟩ (by kernel_rfl) (Wp.sq (Wp.rg (Ops.sg 1 1 (Ops.dn (seqQ.n (Wp.sq (Wp.rg (Ops.sg 2 2 ?_))))))))
 obtain ⟨v1, ev1, h⟩ := bnd_some h
 refine Ops.on 3 (fun h0 e0 => (app_n (T := T) (g := .nonfull) h0 22 3 1 ti3 .plain eI a0 v1 ev1 (by kernel_rfl) (by kernel_rfl) (by kernel_rfl) (by kernel_rfl) (fun _ => rfl))) ?_
 refine Ops.sg 1 4 (Ops.dn (seqQ.n (Wp.sq (Wp.sq (Wp.rg (Ops.sg 1 1 ?_))))))
 refine Ops.on 2 (fun h0 e0 => (len_r (T := T) h0 22 3 .plain eI a1 (by kernel_rfl))) ?_
 refine Ops.sg 1 3 (Ops.dn (seqQ.n (Wp.bk 0 [4, 5] 1 ?_)))
 have hLx234 : ∀ (kx153 : Nat) (v150 : (List Int)) (v151 : Int)  (ox152 : (List Int) ⊕ ((List Int) × Int)), iter (fun (y : (List Int) × Int) => f52_B6 m a1 y.1 y.2) kx153 (v150, v151) = some ox152 → ∀ nx154, kx153 ≤ nx154 → (∀ r, ox152 = .inl r → ∀ σ, RetOk (X52 n) (resOf Proofs.Tryd.prog 52) ((eL eI) r) σ → (seqQ (X52 n) p52_0 (fnQ (X52 n).E.T (resOf Proofs.Tryd.prog 52) ((eL eI) o))) .ret σ) → (∀ (y : (List Int) × Int) , ox152 = .inr y → (seqQ (X52 n) p52_0 (fnQ (X52 n).E.T (resOf Proofs.Tryd.prog 52) ((eL eI) o))) .normal ⟨q4 ((.v (.sl .nil (List.map eI [])))::(appF .nonfull 1 (List.map eI y.1))::q40 (q12 [])), [.dead, (appO 1 (List.map eI y.1))]⟩) → Lp (X52 n) k52_0 1 p52_1 nx154 ⟨Zs40 (.v (.sl .nil (List.map eI []))) (appF .nonfull 1 (List.map eI v150)) a1 (a1.length : Int) v151 [], [.dead, (appO 1 (List.map eI v150))]⟩ (blkQ (X52 n) 0 [4, 5] 1 (seqQ (X52 n) p52_0 (fnQ (X52 n).E.T (resOf Proofs.Tryd.prog 52) ((eL eI) o)))) := by
  intro kx153
  induction kx153 with
  | zero => intro v150 v151  ox152 h; exact (iter_zero h).elim
  | succ kx153 ihx155 =>
   intro v150 v151  ox152 h nx154 hnx158 hrx156 hxx157
   obtain ⟨nx154, rfl⟩ : ∃ q, nx154 = q + 1 := ⟨nx154 - 1, by omega⟩
   obtain ⟨sx159, h, hsx160⟩ := iter_some h
   have h : f52_B6 m a1 v150 v151 = some sx159 := h
   unfold f52_B6 at h
   refine Lp.succ (Wp.sq (Wp.rg (Ops.sg 1 1 (Ops.dn (seqQ.n (Wp.sq ?_))))))
   refine Wp.cd h k52_0 2 (fun h => ?_) (fun h => ?_)
   ·refine Wp.sk (sqQ.n ⟨Zs40 (.v (.sl .nil (List.map eI []))) (appF .nonfull 2 (List.map eI v150)) a1 (a1.length : Int) v151 [], [.dead, .dead, (appO 1 (List.map eI v150))]⟩ (by generalize v150 = z0; cases z0 <;> kernel_rfl) (seqQ.n (Wp.sq ?_)))
    have J52j162 : ∀ (v161 : (List Int)) , f52_j1 m v151 v161 = some sx159 → (seqQ (X52 n) p52_2 (lpQ (X52 n) k52_0 1 p52_1 nx154 (blkQ (X52 n) 0 [4, 5] 1 (seqQ (X52 n) p52_0 (fnQ (X52 n).E.T (resOf Proofs.Tryd.prog 52) ((eL eI) o)))))) .normal ⟨Zs40 (.v (.sl .nil (List.map eI []))) (appF .nonfull 3 (List.map eI v161)) a1 (a1.length : Int) v151 [], (dd 3 [(appO 1 (List.map eI v161))])⟩ := by
     intro v161  h
     unfold f52_j1 at h
     refine seqQ.n (Wp.rg (Ops.sg 2 2 (Ops.dn (lpQ.n ⟨Zs40 (.v (.sl .nil (List.map eI []))) (appF .nonfull 1 (List.map eI v161)) a1 (a1.length : Int) (w64 (v151 + 1)) [], [.dead, (appO 1 (List.map eI v161))]⟩ (by generalize v161 = z0; cases z0 <;> kernel_rfl) ?_))))
     cases h
     exact ihx155 v161 (w64 (v151 + 1))  _ hsx160 _ (by omega) hrx156 hxx157
    refine Wp.bk 1 k52_0 3 (Wp.sq (Wp.rg ?_))
    obtain ⟨v163, ev163, h⟩ := bnd_some h
    refine Ops.on 1 (fun h0 e0 => (ix_r (T := T) h0 22 3 1 .plain eI a1 v151 v163 ev163 (by kernel_rfl) (by kernel_rfl) (fun _ => rfl))) ?_
    refine Ops.sg 2 3 (Ops.dn (seqQ.n (Wp.sq (Wp.rg (Ops.sg 1 1 (Ops.dn (seqQ.n (Wp.sq (Wp.bk 2 k52_1 3 ?_)))))))))
    have hLx211 : ∀ (kx191 : Nat) (v189 : Int)  (ox190 : (List Int) ⊕ (Int)), iter (fun (y : Int) => f52_B3 m v150 v163 y) kx191 v189 = some ox190 → ∀ nx192, kx191 ≤ nx192 → (∀ r, ox190 = .inl r → ∀ σ, RetOk (X52 n) (resOf Proofs.Tryd.prog 52) ((eL eI) r) σ → (seqQ (X52 n) p52_3 (blkQ (X52 n) 1 k52_0 3 (seqQ (X52 n) p52_2 (lpQ (X52 n) k52_0 1 p52_1 nx154 (blkQ (X52 n) 0 [4, 5] 1 (seqQ (X52 n) p52_0 (fnQ (X52 n).E.T (resOf Proofs.Tryd.prog 52) ((eL eI) o)))))))) .ret σ) → (∀ (y : Int) , ox190 = .inr y → (seqQ (X52 n) p52_3 (blkQ (X52 n) 1 k52_0 3 (seqQ (X52 n) p52_2 (lpQ (X52 n) k52_0 1 p52_1 nx154 (blkQ (X52 n) 0 [4, 5] 1 (seqQ (X52 n) p52_0 (fnQ (X52 n).E.T (resOf Proofs.Tryd.prog 52) ((eL eI) o)))))))) .normal ⟨Zs25 (.v (.sl .nil (List.map eI []))) (appF .nonfull 3 (List.map eI v150)) v163 y a1 (a1.length : Int) v151 (q40 (q3 [])), (dd 3 [(appO 1 (List.map eI v150))])⟩) → Lp (X52 n) k52_1 3 (cL (cL (cL (cR (cR (cL (cL (cR (cR p52_1))))))))) nx192 ⟨Zs25 (.v (.sl .nil (List.map eI []))) (appF .nonfull 3 (List.map eI v150)) v163 v189 a1 (a1.length : Int) v151 (q40 (q3 [])), (dd 3 [(appO 1 (List.map eI v150))])⟩ (blkQ (X52 n) 2 k52_1 3 (seqQ (X52 n) p52_3 (blkQ (X52 n) 1 k52_0 3 (seqQ (X52 n) p52_2 (lpQ (X52 n) k52_0 1 p52_1 nx154 (blkQ (X52 n) 0 [4, 5] 1 (seqQ (X52 n) p52_0 (fnQ (X52 n).E.T (resOf Proofs.Tryd.prog 52) ((eL eI) o))))))))) := by
     intro kx191
     induction kx191 with
     | zero => intro v189  ox190 h; exact (iter_zero h).elim
     | succ kx191 ihx193 =>
      intro v189  ox190 h nx192 hnx196 hrx194 hxx195
      obtain ⟨nx192, rfl⟩ : ∃ q, nx192 = q + 1 := ⟨nx192 - 1, by omega⟩
      obtain ⟨sx197, h, hsx198⟩ := iter_some h
      have h : f52_B3 m v150 v163 v189 = some sx197 := h
      unfold f52_B3 at h
      refine Lp.succ (Wp.sq (Wp.sq (Wp.rg (Ops.sg 2 2 ?_))))
      refine Ops.on 3 (fun h0 e0 => (len_a (T := T) (g := .nonfull) h0 22 3 3 eI v150 (by kernel_rfl))) ?_
      refine Ops.sg 2 5 ?_
      refine Ops.hv (fun KQ => ∀ (d201 d202 d203 d204 d205 d206 : D) (v207 v208 : Bool), f52_r2 m v189 v208 = some sx197 → KQ 12 ⟨Zs25 (.v (.sl .nil (List.map eI []))) (appF .nonfull 3 (List.map eI v150)) v163 v189 a1 (a1.length : Int) v151 (q3 ((dI v189)::(appF .nonfull 3 (List.map eI v150))::(dI (v150.length : Int))::(dB v207)::(dB v207)::d201::d202::d203::d204::d205::d206::(dB v208)::q28 [])), (dd 3 [(appO 1 (List.map eI v150))])⟩) ?_ fun J52j209 => ?_
      ·intro d201 d202 d203 d204 d205 d206 v207 v208 h
       unfold f52_r2 at h
       refine Ops.dn (seqQ.n ?_)
       refine Wp.cd h k52_1 4 (fun h => ?_) (fun h => ?_)
       ·refine Wp.sk (sqQ.n ⟨Zs25 (.v (.sl .nil (List.map eI []))) (appF .nonfull 4 (List.map eI v150)) v163 v189 a1 (a1.length : Int) v151 (q40 (q3 [])), (dd 4 [(appO 1 (List.map eI v150))])⟩ (by generalize v150 = z0; cases z0 <;> kernel_rfl) (seqQ.n (Wp.bk 3 k52_1 5 (Wp.rg (Ops.sg 3 3 (Ops.dn (blkQ.n ⟨Zs25 (.v (.sl .nil (List.map eI []))) (appF .nonfull 5 (List.map eI v150)) v163 (w64 (v189 + 1)) a1 (a1.length : Int) v151 (q40 (q3 [])), (dd 5 [(appO 1 (List.map eI v150))])⟩ (by generalize v150 = z0; cases z0 <;> kernel_rfl) (lpQ.n ⟨Zs25 (.v (.sl .nil (List.map eI []))) (appF .nonfull 3 (List.map eI v150)) v163 (w64 (v189 + 1)) a1 (a1.length : Int) v151 (q40 (q3 [])), (dd 3 [(appO 1 (List.map eI v150))])⟩ (by generalize v150 = z0; cases z0 <;> kernel_rfl) ?_))))))))
        cases h
        exact ihx193 (w64 (v189 + 1))  _ hsx198 _ (by omega) hrx194 hxx195
       ·refine Wp.ex 2 (sqQ.x (seqQ.x ?_))
        cases h
        refine lpQ.x (blkQ.x ⟨Zs25 (.v (.sl .nil (List.map eI []))) (appF .nonfull 3 (List.map eI v150)) v163 v189 a1 (a1.length : Int) v151 (q40 (q3 [])), (dd 3 [(appO 1 (List.map eI v150))])⟩ (by generalize v150 = z0; cases z0 <;> kernel_rfl) ?_)
        exact hxx195 v189  hsx198
      obtain ⟨v208, ev208, h⟩ := bnd_some h
      refine Ops.hv (fun KQ => ∀ v199 : Bool, (cnd v199 (bnd (idx v150 v189) fun v210 => some (decide (v210 < v163))) (some false)) = some v208 → KQ 5 ⟨Zs25 (.v (.sl .nil (List.map eI []))) (appF .nonfull 3 (List.map eI v150)) v163 v189 a1 (a1.length : Int) v151 (q3 ((dI v189)::(appF .nonfull 3 (List.map eI v150))::(dI (v150.length : Int))::(dB v199)::(dB v199)::q35 [])), (dd 3 [(appO 1 (List.map eI v150))])⟩) ?_ fun G52g200 => Ops.sx (G52g200 (decide (v189 < (v150.length : Int))) ev208)
      intro v199 ev208
      cases v199
      ·have ev208 := cnd_f ev208
       refine Ops.sg 7 12 ?_
       exact Ops.sx (J52j209 U U U U U U false false (some_sub (fun v208 => f52_r2 m v189 v208 = some sx197) ev208 h))
      ·have ev208 := cnd_t ev208
       refine Ops.sg 2 7 ?_
       obtain ⟨v210, ev210, ev208⟩ := bnd_some ev208
       refine Ops.on 8 (fun h0 e0 => (ix_a (T := T) (g := .nonfull) h0 22 3 1 3 eI v150 v189 v210 ev210 (by kernel_rfl) (by kernel_rfl) (fun _ => rfl))) ?_
       refine Ops.sg 4 12 ?_
       exact Ops.sx (J52j209 (appF .nonfull 3 (List.map eI v150)) (dI v189) (.vptr [(vI v210)]) (dI v210) (dI v163) (dB (decide (v210 < v163))) true (decide (v210 < v163)) (some_sub (fun v208 => f52_r2 m v189 v208 = some sx197) ev208 h))
    refine Wp.loop' k52_1 3 (by kernel_rfl) ⟨q4 ((.v (.sl .nil (List.map eI [])))::(appF .nonfull 3 (List.map eI v150))::q1 ((dI v163)::(dI 0)::q3 ((dP eI a1)::(dI (a1.length : Int))::(dI v151)::q40 (q3 [])))), (dd 3 [(appO 1 (List.map eI v150))])⟩ (by generalize v150 = z0; cases z0 <;> kernel_rfl) ?_
    rcases brk_some h with ⟨r213, er213, h⟩ | ⟨y212, ey212, h⟩
    ·refine hLx211 _ 0  _ er213 n (by omega) (fun r er σ hσ => ?_) (fun y  ey => by cases ey)
     cases er
     refine seqQ.r (blkQ.r (seqQ.r (lpQ.r ?_)))
     cases h
     refine blkQ.r ?_
     exact hrx156 _ hsx160 _ (RetOk.forget k52_0 (by kernel_rfl) hσ)
    ·refine hLx211 _ 0  _ ey212 n (by omega) (fun r er => by cases er) (fun y  ey => ?_)
     cases ey
     refine seqQ.n (Wp.sq (Wp.rg (Ops.sg 2 2 ?_)))
     refine Ops.on 3 (fun h0 e0 => (len_a (T := T) (g := .nonfull) h0 22 3 3 eI v150 (by kernel_rfl))) ?_
     refine Ops.sg 2 5 ?_
     refine Ops.hv (fun KQ => ∀ (d216 d217 d218 d219 d220 d221 : D) (v222 v223 : Bool), f52_r5 m v150 v151 v163 y212 v223 = some sx159 → KQ 12 ⟨Zs25 (.v (.sl .nil (List.map eI []))) (appF .nonfull 3 (List.map eI v150)) v163 y212 a1 (a1.length : Int) v151 (q17 ((dI y212)::(appF .nonfull 3 (List.map eI v150))::(dI (v150.length : Int))::(dB v222)::(dB v222)::d216::d217::d218::d219::d220::d221::(dB v223)::q14 [])), (dd 3 [(appO 1 (List.map eI v150))])⟩) ?_ fun J52j224 => ?_
     ·intro d216 d217 d218 d219 d220 d221 v222 v223 h
      unfold f52_r5 at h
      refine Ops.dn (seqQ.n ?_)
      have J52j227 : ∀ (v225 : (List Int)) (oo226 : OO), f52_j4 m v151 v225 = some sx159 → (blkQ (X52 n) 1 k52_0 3 (seqQ (X52 n) p52_2 (lpQ (X52 n) k52_0 1 p52_1 nx154 (blkQ (X52 n) 0 [4, 5] 1 (seqQ (X52 n) p52_0 (fnQ (X52 n).E.T (resOf Proofs.Tryd.prog 52) ((eL eI) o))))))) .normal ⟨Zs40 (.v (.sl .nil (List.map eI []))) (appF .nonfull 4 (List.map eI v225)) a1 (a1.length : Int) v151 [], (dd 3 [(OO.o oo226), (appO 1 (List.map eI v225))])⟩ := by
       intro v225 oo226 h
       unfold f52_j4 at h
       refine blkQ.n ⟨Zs40 (.v (.sl .nil (List.map eI []))) (appF .nonfull 3 (List.map eI v225)) a1 (a1.length : Int) v151 [], (dd 3 [(appO 1 (List.map eI v225))])⟩ (by generalize v225 = z0; cases z0 <;> kernel_rfl) ?_
       exact J52j162 v225  h
      refine Wp.cd h k52_0 4 (fun h => ?_) (fun h => ?_)
      ·refine Wp.rg (Ops.sg 3 3 ?_)
       obtain ⟨v228, ev228, h⟩ := bnd_some h
       refine Ops.on 4 (fun h0 e0 => (sub_x (T := T) h0 22 3 1 (appF .nonfull 3 (List.map eI v150)) eI v150 v228 none (some y212) (appF_hd _ _ _) ev228 (by kernel_rfl) (by kernel_rfl) (fun _ => rfl))) ?_
       obtain ⟨v229, ev229, h⟩ := bnd_some h
       refine Ops.on 5 (fun h0 e0 => (app_n (T := T) (g := .nonfull) h0 22 3 1 ti3 (sfl (dfl (appF .nonfull 3 (List.map eI v150))) v150.length (some y212)) eI v228 v229 ev229 (by kernel_rfl) (by kernel_rfl) (by kernel_rfl) (by kernel_rfl) (fun _ => rfl))) ?_
       refine Ops.sg 2 7 ?_
       obtain ⟨v230, ev230, h⟩ := bnd_some h
       refine Ops.on 8 (fun h0 e0 => (app_r (T := T) (g := .nonfull) h0 22 3 4 1 ti3 .nonfull eI v229 [v163] v230 ev230 (by kernel_rfl) (by kernel_rfl) (by kernel_rfl) (by kernel_rfl) (fun _ => rfl) (hq_of e0 (by kernel_rfl)))) ?_
       refine Ops.sg 2 10 ?_
       obtain ⟨v231, ev231, h⟩ := bnd_some h
       refine Ops.on 11 (fun h0 e0 => (sub_x (T := T) h0 22 3 1 (appF .nonfull 3 (List.map eI v150)) eI v150 v231 (some y212) none (appF_hd _ _ _) ev231 (by kernel_rfl) (by kernel_rfl) (fun _ => rfl))) ?_
       obtain ⟨v232, ev232, h⟩ := bnd_some h
       refine Ops.on 12 (fun h0 e0 => (app_r (T := T) (g := .nonfull) h0 22 3 5 1 ti3 (sfl (dfl (appF .nonfull 3 (List.map eI v150))) v150.length none) eI v230 v231 v232 ev232 (by kernel_rfl) (by kernel_rfl) (by kernel_rfl) (by kernel_rfl) (fun _ => rfl) (hq_of e0 (by kernel_rfl)))) ?_
       refine Ops.sg 1 13 (Ops.dn (sqQ.n ⟨Zs40 (.v (.sl .nil (List.map eI []))) (appF .nonfull 4 (List.map eI v232)) a1 (a1.length : Int) v151 [], (dd 3 [(OO.o (OO.of 1 (List.map eI v150))), (appO 1 (List.map eI v232))])⟩ (by generalize v232 = z0; generalize v150 = z1; cases z0 <;> cases z1 <;> (as_aux_lemma => kernel_rfl)) ?_))
       exact J52j227 v232 _ h
      ·refine Wp.sk (sqQ.n ⟨Zs40 (.v (.sl .nil (List.map eI []))) (appF .nonfull 4 (List.map eI v150)) a1 (a1.length : Int) v151 [], (dd 3 [(OO.o none), (appO 1 (List.map eI v150))])⟩ (by generalize v150 = z0; cases z0 <;> kernel_rfl) ?_)
       exact J52j227 v150 _ h
     obtain ⟨v223, ev223, h⟩ := bnd_some h
     refine Ops.hv (fun KQ => ∀ v214 : Bool, (cnd v214 (some true) (bnd (idx v150 y212) fun v233 => some (v233 != v163))) = some v223 → KQ 5 ⟨Zs25 (.v (.sl .nil (List.map eI []))) (appF .nonfull 3 (List.map eI v150)) v163 y212 a1 (a1.length : Int) v151 (q17 ((dI y212)::(appF .nonfull 3 (List.map eI v150))::(dI (v150.length : Int))::(dB v214)::(dB v214)::q21 [])), (dd 3 [(appO 1 (List.map eI v150))])⟩) ?_ fun G52g215 => Ops.sx (G52g215 (y212 == (v150.length : Int)) ev223)
     intro v214 ev223
     cases v214
     ·have ev223 := cnd_f ev223
      refine Ops.sg 2 7 ?_
      obtain ⟨v233, ev233, ev223⟩ := bnd_some ev223
      refine Ops.on 8 (fun h0 e0 => (ix_a (T := T) (g := .nonfull) h0 22 3 1 3 eI v150 y212 v233 ev233 (by kernel_rfl) (by kernel_rfl) (fun _ => rfl))) ?_
      refine Ops.sg 4 12 ?_
      exact Ops.sx (J52j224 (appF .nonfull 3 (List.map eI v150)) (dI y212) (.vptr [(vI v233)]) (dI v233) (dI v163) (dB (v233 != v163)) false (v233 != v163) (some_sub (fun v223 => f52_r5 m v150 v151 v163 y212 v223 = some sx159) ev223 h))
     ·have ev223 := cnd_t ev223
      refine Ops.sg 7 12 ?_
      exact Ops.sx (J52j224 U U U U U U true true (some_sub (fun v223 => f52_r5 m v150 v151 v163 y212 v223 = some sx159) ev223 h))
   ·refine Wp.ex 0 (sqQ.x (seqQ.x ?_))
    cases h
    refine lpQ.x (blkQ.x ⟨q4 ((.v (.sl .nil (List.map eI [])))::(appF .nonfull 1 (List.map eI v150))::q40 (q12 [])), [.dead, (appO 1 (List.map eI v150))]⟩ (by generalize v150 = z0; cases z0 <;> kernel_rfl) ?_)
    exact hxx157 (v150, v151)  hsx160
 refine Wp.loop' k52_0 1 (by kernel_rfl) ⟨q4 ((.v (.sl .nil (List.map eI [])))::(appF .nonfull 1 (List.map eI v1))::q6 ((dP eI a1)::(dI (a1.length : Int))::(dI 0)::q40 (q3 []))), [.dead, (appO 1 (List.map eI v1))]⟩ (by generalize v1 = z0; cases z0 <;> kernel_rfl) ?_
 rcases brk_some h with ⟨r236, er236, h⟩ | ⟨y235, ey235, h⟩
 ·refine hLx234 _ v1 0  _ er236 n (by omega) (fun r er σ hσ => ?_) (fun y  ey => by cases ey)
  cases er
  refine seqQ.r ?_
  exact fnQ.r' (X52 n) (fun z => ((eL eI) z)) h hσ
 ·refine hLx234 _ v1 0  _ ey235 n (by omega) (fun r er => by cases er) (fun y  ey => ?_)
  cases ey
  refine seqQ.n (Wp.sq (Wp.rg (Ops.sg 2 2 (Ops.dn (seqQ.n (Wp.rt ?_))))))
  exact fnQ.r' (X52 n) (fun z => ((eL eI) z)) h (RetOk.mk' (appF .nonfull 1 (List.map eI y235.1)) (by kernel_rfl) (appD_frz _ _ _ _))
end Go.Abs
