import Derived.Test.YtkmmaelmdioleaaGreatDoorWZ
namespace Go.Abs
set_option linter.unusedVariables false
set_option linter.unusedSimpArgs false
set_option linter.unnecessarySimpa false
set_option maxRecDepth 100000
noncomputable def f13 (m : Nat) (a0 a1 : Int) : Option S26 :=
 some ((⟨a0, a1⟩ : S26))
noncomputable abbrev X13 (n : Nat) : Cx := cxOf Proofs.Tryz.prog E 13 n
theorem ok13 (m : Nat) (a0 a1 : Int) (o : S26) (h : f13 m a0 a1 = some o) (n : Nat) (hn : m + 1 ≤ n) : Fn Proofs.Tryz.prog E n 13 [.v (eI a0), .v (eI a1)] (e26 o) := by
 obtain ⟨n, rfl⟩ : ∃ q, n = q + 1 := ⟨n - 1, by omega⟩
 unfold f13 at h
 refine Fn.of (by kernel_rfl) (by kernel_rfl) (by kernel_rfl) ⟨(dI a0)::(dI a1)::u6 [], []⟩ (by kernel_rfl) (Wp.sq (Wp.rg (Ops.sg 1 1 (Ops.dn (seqQ.n (Wp.sq (Wp.rg (Ops.sg 4 4 (Ops.dn (seqQ.n (Wp.rt ?_)))))))))))
 exact fnQ.r' (X13 n) (fun z => (e26 z)) h (RetOk.mk' (.v (.agg [(vI a0), (vI a1)])) (by kernel_rfl) (by kernel_rfl))
noncomputable def f68 (m : Nat) (a0 a1 : Int) : Option S26 :=
 some ((⟨a0, a1⟩ : S26))
noncomputable abbrev X68 (n : Nat) : Cx := cxOf Proofs.Tryz.prog E 68 n
theorem ok68 (m : Nat) (a0 a1 : Int) (o : S26) (h : f68 m a0 a1 = some o) (n : Nat) (hn : m + 1 ≤ n) : Fn Proofs.Tryz.prog E n 68 [.v (eI a0), .v (eI a1)] (e26 o) := by
 obtain ⟨n, rfl⟩ : ∃ q, n = q + 1 := ⟨n - 1, by omega⟩
 unfold f68 at h
 refine Fn.of (by kernel_rfl) (by kernel_rfl) (by kernel_rfl) ⟨(dI a0)::(dI a1)::u6 [], []⟩ (by kernel_rfl) (Wp.sq (Wp.rg (Ops.sg 1 1 (Ops.dn (seqQ.n (Wp.sq (Wp.rg (Ops.sg 4 4 (Ops.dn (seqQ.n (Wp.rt ?_)))))))))))
 exact fnQ.r' (X68 n) (fun z => (e26 z)) h (RetOk.mk' (.v (.agg [(vI a0), (vI a1)])) (by kernel_rfl) (by kernel_rfl))
noncomputable def f69 (m : Nat) (a0 : ByteArray) : Option (Int × Int) := some (((Lib.decodeGo a0).1 : Int), ((Lib.decodeGo a0).2 : Int))
theorem ok69 (m : Nat) (a0 : ByteArray) (o : (Int × Int)) (h : f69 m a0 = some o) (n : Nat) (hn : m + 1 ≤ n) : Fn Proofs.Tryz.prog E n 69 [.v (eS a0)] (.tuple [(eK .i32) o.1, eI o.2]) := by
 obtain ⟨n, rfl⟩ : ∃ q, n = q + 1 := ⟨n - 1, by omega⟩
 refine ora_fn (xs := [eS a0]) (by kernel_rfl) (by kernel_rfl) (by kernel_rfl) (F := decodeF) ?_ rfl
 cases h
 rfl
noncomputable def f31_r1 (m : Nat) (v26 : (List Int)) (v27 : Int) (v38 : (Int × Int)) (v44 : Bool) : Option (Stp ((List Int) × S26) ((List Int) × Int)) :=
 cnd v44
 (bnd (f68 m 5 v27) fun v46 =>
 some (.ret (([], v46))))
 (bnd (app 8 v26 ([w64 v38.1])) fun v47 =>
 some (.nxt (v47, w64 (v27 + v38.2))))
noncomputable def f31_B2 (m : Nat) (a0 : ByteArray) (v26 : (List Int)) (v27 : Int) : Option (Stp ((List Int) × S26) ((List Int) × Int)) :=
 cnd (decide (v27 < (a0.size : Int)))
 (bnd (ssub a0 v27 (a0.size : Int)) fun v37 =>
 bnd (f69 m v37) fun v38 =>
 f31_r1 m v26 v27 v38 ((v38.1 == 65533) && (decide (v38.2 ≤ 1))))
 (some (.brk (v26, v27)))
noncomputable def f31 (m : Nat) (a0 : ByteArray) : Option ((List Int) × S26) :=
 cnd (decide ((a0.size : Int) > 4000))
 (bnd (f68 m 1 (-1)) fun v1 =>
 some (([], v1)))
 (brk (iter (fun (y : (List Int) × Int) => f31_B2 m a0 y.1 y.2) m ([], 0)) some fun y49 =>
 some ((y49.1, (⟨0, 0⟩ : S26))))
noncomputable abbrev X31 (n : Nat) : Cx := cxOf Proofs.Tryz.prog E 31 n
noncomputable def C31 : Code := bodyOf Proofs.Tryz.prog 31
noncomputable abbrev b31_0 : AObj := .cells [(dI 0), (dI 0)]
theorem ok31 (m : Nat) (a0 : ByteArray) (o : ((List Int) × S26)) (h : f31 m a0 = some o) (n : Nat) (hn : m + 2 ≤ n) : Fn Proofs.Tryz.prog E n 31 [.v (eS a0)] (.tuple [(eL eI) o.1, e26 o.2]) := by
 obtain ⟨n, rfl⟩ : ∃ q, n = q + 1 := ⟨n - 1, by omega⟩
 unfold f31 at h
 refine Fn.of (by kernel_rfl) (by kernel_rfl) (by kernel_rfl) ⟨(.v (.str a0))::u40 [], []⟩ (by kernel_rfl) (Wp.sq (Wp.rg (Ops.sg 2 2 (Ops.dn (seqQ.n (Wp.sq (Wp.sq (Wp.rg (Ops.sg 3 3 (Ops.dn (seqQ.n ?_)))))))))))
 refine Wp.cd h [0, 2, 3] 1 (fun h => ?_) (fun h => ?_)
 ·refine Wp.sq (Wp.rg ?_)
  obtain ⟨v1, ev1, h⟩ := bnd_some h
  refine Ops.on 1 (fun h0 e0 => (call_ok (E' := E) (h := h0) (by kernel_rfl) (Args.v (vI 1) (eI 1) (by kernel_rfl) (Args.v (vI (-1)) (eI (-1)) (by kernel_rfl) Args.nil)) (ok68 m 1 (-1) v1 ev1 n (by omega)))) ?_
  refine Ops.sg 2 3 (Ops.dn (seqQ.n (Wp.rt (sqQ.r (seqQ.r ?_)))))
  exact fnQ.r' (X31 n) (fun z => (.tuple [(eL eI) z.1, e26 z.2])) h (RetOk.mk' (.v (.tuple [(.sl .nil (List.map eI [])), (.agg [(vI v1.fCode), (vI v1.fIndex)])])) (by kernel_rfl) (by kernel_rfl))
 ·refine Wp.sk (sqQ.n' (seqQ.n (Wp.sq (Wp.rg (Ops.sg 1 1 (Ops.dn (seqQ.n (Wp.sq (Wp.sq (Wp.rg (Ops.sg 1 1 (Ops.dn (seqQ.n (Wp.bk 0 [2, 3, 4] 2 ?_))))))))))))))
  have hLx48 : ∀ (kx29 : Nat) (v26 : (List Int)) (v27 : Int)  (ox28 : ((List Int) × S26) ⊕ ((List Int) × Int)), iter (fun (y : (List Int) × Int) => f31_B2 m a0 y.1 y.2) kx29 (v26, v27) = some ox28 → ∀ nx30, kx29 ≤ nx30 → (∀ r, ox28 = .inl r → ∀ σ, RetOk (X31 n) (resOf Proofs.Tryz.prog 31) (.tuple [(eL eI) r.1, e26 r.2]) σ → (seqQ (X31 n) (cR (cR (cR (cR C31)))) (fnQ (X31 n).E.T (resOf Proofs.Tryz.prog 31) (.tuple [(eL eI) o.1, e26 o.2]))) .ret σ) → (∀ (y : (List Int) × Int) , ox28 = .inr y → (seqQ (X31 n) (cR (cR (cR (cR C31)))) (fnQ (X31 n).E.T (resOf Proofs.Tryz.prog 31) (.tuple [(eL eI) o.1, e26 o.2]))) .normal ⟨Zs36 (.v (.sl .nil (List.map eI []))) y.1 (q36 []), [b31_0, .dead, (appO 1 (List.map eI y.1))]⟩) → Lp (X31 n) [0, 2, 3, 4, 5] 2 (cL (cL (cR (cL (cR (cR (cR C31))))))) nx30 ⟨Zs19 a0 (.v (.sl .nil (List.map eI []))) ((appD 2 (List.map eI v26))::(dI v27)::q35 []), [b31_0, .dead, (appO 1 (List.map eI v26))]⟩ (blkQ (X31 n) 0 [2, 3, 4] 2 (seqQ (X31 n) (cR (cR (cR (cR C31)))) (fnQ (X31 n).E.T (resOf Proofs.Tryz.prog 31) (.tuple [(eL eI) o.1, e26 o.2])))) := by
   intro kx29
   induction kx29 with
   | zero => intro v26 v27  ox28 h; exact (iter_zero h).elim
   | succ kx29 ihx31 =>
    intro v26 v27  ox28 h nx30 hnx34 hrx32 hxx33
    obtain ⟨nx30, rfl⟩ : ∃ q, nx30 = q + 1 := ⟨nx30 - 1, by omega⟩
    obtain ⟨sx35, h, hsx36⟩ := iter_some h
    have h : f31_B2 m a0 v26 v27 = some sx35 := h
    unfold f31_B2 at h
    refine Lp.succ (Wp.sq (Wp.sq (Wp.rg (Ops.sg 4 4 (Ops.dn (seqQ.n ?_))))))
    refine Wp.cd h [0, 2, 3, 4, 5] 3 (fun h => ?_) (fun h => ?_)
    ·refine Wp.sk (sqQ.n ⟨Zs19 a0 (.v (.sl .nil (List.map eI []))) ((appD 3 (List.map eI v26))::(dI v27)::q35 []), [b31_0, .dead, .dead, (appO 1 (List.map eI v26))]⟩ (by generalize v26 = z0; cases z0 <;> kernel_rfl) (seqQ.n (Wp.bk 1 [0, 2, 3, 4, 5] 4 (Wp.sq (Wp.rg (Ops.sg 2 2 ?_))))))
     obtain ⟨v37, ev37, h⟩ := bnd_some h
     refine Ops.on 3 (fun h0 e0 => (str_sub (T := T) h0 9 a0 v37 (some v27) none ev37 (by kernel_rfl))) ?_
     obtain ⟨v38, ev38, h⟩ := bnd_some h
     refine Ops.on 4 (fun h0 e0 => (call_ok (E' := E) (h := h0) (by kernel_rfl) (Args.v (.str v37) (eS v37) (by kernel_rfl) Args.nil) (ok69 m v37 v38 ev38 n (by omega)))) ?_
     refine Ops.sg 5 9 (Ops.dn (seqQ.n (Wp.sq (Wp.sq (Wp.rg (Ops.sg 3 3 ?_))))))
     refine Ops.hv (fun KQ => ∀ (d41 d42 : D) (v43 v44 : Bool), f31_r1 m v26 v27 v38 v44 = some sx35 → KQ 6 ⟨Zs19 a0 (.v (.sl .nil (List.map eI []))) ((appD 3 (List.map eI v26))::(dI v27)::(.v (.int .i32 v38.1))::(dI v38.2)::q8 ((.v (.tuple [(.int .i32 v38.1), (vI v38.2)]))::(.v (.str a0))::(dI v27)::(.v (.str v37))::(.v (.tuple [(.int .i32 v38.1), (vI v38.2)]))::(.v (.int .i32 v38.1))::(dI v38.2)::(.v (.int .i32 v38.1))::(dB v43)::(dB v43)::d41::d42::(dB v44)::q12 [])), [b31_0, .dead, .dead, (appO 1 (List.map eI v26))]⟩) ?_ fun J31j45 => ?_
     ·intro d41 d42 v43 v44 h
      unfold f31_r1 at h
      refine Ops.dn (seqQ.n ?_)
      refine Wp.cd h [0, 2, 3, 4, 5, 6, 7] 4 (fun h => ?_) (fun h => ?_)
      ·refine Wp.sq (Wp.rg (Ops.sg 1 1 ?_))
       obtain ⟨v46, ev46, h⟩ := bnd_some h
       refine Ops.on 2 (fun h0 e0 => (call_ok (E' := E) (h := h0) (by kernel_rfl) (Args.v (vI 5) (eI 5) (by kernel_rfl) (Args.v (vI v27) (eI v27) (by kernel_rfl) Args.nil)) (ok68 m 5 v27 v46 ev46 n (by omega)))) ?_
       refine Ops.sg 2 4 (Ops.dn (seqQ.n (Wp.rt (sqQ.r (seqQ.r (blkQ.r ?_))))))
       cases h
       refine lpQ.r (blkQ.r ?_)
       exact hrx32 _ hsx36 _ (RetOk.forget [0, 2, 3, 4, 5] (by kernel_rfl) (RetOk.mk' (.v (.tuple [(.sl .nil (List.map eI [])), (.agg [(vI v46.fCode), (vI v46.fIndex)])])) (by kernel_rfl) (by kernel_rfl)))
      ·refine Wp.sk (sqQ.n ⟨Zs19 a0 (.v (.sl .nil (List.map eI []))) ((appD 4 (List.map eI v26))::(dI v27)::(.v (.int .i32 v38.1))::(dI v38.2)::q33 []), [b31_0, .dead, .dead, .dead, (appO 1 (List.map eI v26))]⟩ (by generalize v26 = z0; cases z0 <;> kernel_rfl) (seqQ.n (Wp.sq (Wp.rg (Ops.sg 4 4 ?_)))))
       obtain ⟨v47, ev47, h⟩ := bnd_some h
       refine Ops.on 5 (fun h0 e0 => (app_r (T := T) (g := .nil) h0 97 3 4 1 ti3 .nonfull eI v26 ([w64 v38.1]) v47 ev47 (by kernel_rfl) (by kernel_rfl) (by kernel_rfl) (by kernel_rfl) (fun _ => rfl) (hq_of e0 (by kernel_rfl)))) ?_
       refine Ops.sg 1 6 (Ops.dn (seqQ.n (Wp.rg (Ops.sg 4 4 (Ops.dn (blkQ.n ⟨Zs19 a0 (.v (.sl .nil (List.map eI []))) ((appD 4 (List.map eI v47))::(dI (w64 (v27 + v38.2)))::q35 []), [b31_0, .dead, .dead, .dead, (appO 1 (List.map eI v47))]⟩ (by generalize v47 = z0; cases z0 <;> kernel_rfl) (lpQ.n ⟨Zs19 a0 (.v (.sl .nil (List.map eI []))) ((appD 2 (List.map eI v47))::(dI (w64 (v27 + v38.2)))::q35 []), [b31_0, .dead, (appO 1 (List.map eI v47))]⟩ (by generalize v47 = z0; cases z0 <;> kernel_rfl) ?_)))))))
       cases h
       exact ihx31 v47 (w64 (v27 + v38.2))  _ hsx36 _ (by omega) hrx32 hxx33
     refine Ops.hv (fun KQ => ∀ v39 : Bool, f31_r1 m v26 v27 v38 (v39 && (decide (v38.2 ≤ 1))) = some sx35 → KQ 3 ⟨Zs19 a0 (.v (.sl .nil (List.map eI []))) ((appD 3 (List.map eI v26))::(dI v27)::(.v (.int .i32 v38.1))::(dI v38.2)::q8 ((.v (.tuple [(.int .i32 v38.1), (vI v38.2)]))::(.v (.str a0))::(dI v27)::(.v (.str v37))::(.v (.tuple [(.int .i32 v38.1), (vI v38.2)]))::(.v (.int .i32 v38.1))::(dI v38.2)::(.v (.int .i32 v38.1))::(dB v39)::(dB v39)::q15 [])), [b31_0, .dead, .dead, (appO 1 (List.map eI v26))]⟩) ?_ fun G31g40 => Ops.sx (G31g40 (v38.1 == 65533) h)
     intro v39 h
     cases v39
     ·refine Ops.sg 3 6 ?_
      exact Ops.sx (J31j45 U U false false h)
     ·refine Ops.sg 3 6 ?_
      exact Ops.sx (J31j45 (dI v38.2) (dB (decide (v38.2 ≤ 1))) true (decide (v38.2 ≤ 1)) h)
    ·refine Wp.ex 0 (sqQ.x (seqQ.x ?_))
     cases h
     refine lpQ.x (blkQ.x ⟨Zs36 (.v (.sl .nil (List.map eI []))) v26 (q36 []), [b31_0, .dead, (appO 1 (List.map eI v26))]⟩ (by generalize v26 = z0; cases z0 <;> kernel_rfl) ?_)
     exact hxx33 (v26, v27)  hsx36
  refine Wp.loop' [0, 2, 3, 4, 5] 2 (by kernel_rfl) ⟨Zs19 a0 (.v (.sl .nil (List.map eI []))) ((appD 2 (List.map eI []))::(dI 0)::q35 []), [b31_0, .dead, .dead]⟩ (by kernel_rfl) ?_
  rcases brk_some h with ⟨r50, er50, h⟩ | ⟨y49, ey49, h⟩
  ·refine hLx48 _ [] 0  _ er50 n (by omega) (fun r er σ hσ => ?_) (fun y  ey => by cases ey)
   cases er
   refine seqQ.r ?_
   exact fnQ.r' (X31 n) (fun z => (.tuple [(eL eI) z.1, e26 z.2])) h hσ
  ·refine hLx48 _ [] 0  _ ey49 n (by omega) (fun r er => by cases er) (fun y  ey => ?_)
   cases ey
   refine seqQ.n (Wp.sq (Wp.rg (Ops.sg 4 4 (Ops.dn (seqQ.n (Wp.rt ?_))))))
   exact fnQ.r' (X31 n) (fun z => (.tuple [(eL eI) z.1, e26 z.2])) h (RetOk.tup [(appD 2 (List.map eI y49.1)), (.v (.agg [(vI 0), (vI 0)]))] (by kernel_rfl) (.d (appD 2 (List.map eI y49.1)) _ (appD_frz _ _ _ _) (appF_nt _ _ _) (.v (.agg [(vI 0), (vI 0)]) _ (by kernel_rfl) (by kernel_rfl) .nil)))
noncomputable def f32 (m : Nat) (a0 : ByteArray) (a1 : Int) : Option Int := some (Lib.indexByte a0.data.toList a1.toNat.toUInt8)
theorem ok32 (m : Nat) (a0 : ByteArray) (a1 o : Int) (h : f32 m a0 a1 = some o) (n : Nat) (hn : m + 1 ≤ n) : Fn Proofs.Tryz.prog E n 32 [.v (eS a0), .v ((eK .u8) a1)] (eI o) := by
 obtain ⟨n, rfl⟩ : ∃ q, n = q + 1 := ⟨n - 1, by omega⟩
 refine ora_fn (xs := [eS a0, (eK .u8) a1]) (by kernel_rfl) (by kernel_rfl) (by kernel_rfl) (F := ixbyteF) ?_ rfl
 cases h
 rfl
noncomputable def f14_r1 (m : Nat) (v67 : Int) (v96 : Bool) : Option (Stp Bool (Int)) :=
 cnd v96
 (some (.ret false))
 (some (.nxt (w64 (v67 + 1))))
noncomputable def f14_r2 (m : Nat) (v67 v77 : Int) (v83 : Bool) : Option (Stp Bool (Int)) :=
 bnd (cnd v83
 (some true)
 (cnd (decide (v77 < 128))
 (bnd (f32 m ((⟨#[32, 9, 10, 40, 41, 91, 93, 44, 59]⟩ : ByteArray)) (IntKind.u8.wrap v77)) fun v100 =>
 some (decide (v100 ≥ 0)))
 (some false))) fun v96 =>
 f14_r1 m v67 v96
noncomputable def f14_B3 (m : Nat) (v1 : ((List Int) × S26)) (v67 : Int) : Option (Stp Bool (Int)) :=
 cnd (decide (v67 < (v1.1.length : Int)))
 (bnd (idx v1.1 v67) fun v77 =>
 f14_r2 m v67 v77 ((v77 == 0) || (decide (v77 ≥ 983040))))
 (some (.brk v67))
noncomputable def f14_r4 (m : Nat) (v1 : ((List Int) × S26)) (v16 : Bool) : Option Bool :=
 cnd v16
 (some false)
 (brk (iter (fun (y : Int) => f14_B3 m v1 y) m 0) some fun y102 =>
 some true)
noncomputable def f14_r5 (m : Nat) (v1 : ((List Int) × S26)) (v8 : Bool) : Option Bool :=
 f14_r4 m v1 (v8 || (decide ((v1.1.length : Int) > 30)))
noncomputable def f14 (m : Nat) (a0 : ByteArray) : Option Bool :=
 bnd (f31 m a0) fun v1 =>
 f14_r5 m v1 ((!((v1.2.fCode == 0) && ((v1.2.fIndex == 0) && true))) || (decide ((v1.1.length : Int) < 1)))
noncomputable abbrev X14 (n : Nat) : Cx := cxOf Proofs.Tryz.prog E 14 n
noncomputable def C14 : Code := bodyOf Proofs.Tryz.prog 14
noncomputable abbrev b14_0 (w0 : ((List Int) × S26)) : AObj := .cells [(dI w0.2.fCode), (dI w0.2.fIndex)]
theorem ok14 (m : Nat) (a0 : ByteArray) (o : Bool) (h : f14 m a0 = some o) (n : Nat) (hn : m + 3 ≤ n) : Fn Proofs.Tryz.prog E n 14 [.v (eS a0)] (eB o) := by
 obtain ⟨n, rfl⟩ : ∃ q, n = q + 1 := ⟨n - 1, by omega⟩
 unfold f14 at h
 refine Fn.of (by kernel_rfl) (by kernel_rfl) (by kernel_rfl) ⟨(.v (.str a0))::u40 (u7 []), []⟩ (by kernel_rfl) (Wp.sq (Wp.rg (Ops.sg 1 1 (Ops.dn (seqQ.n (Wp.sq (Wp.rg (Ops.sg 1 1 ?_))))))))
 obtain ⟨v1, ev1, h⟩ := bnd_some h
 refine Ops.on 2 (fun h0 e0 => (call_ok (E' := E) (h := h0) (by kernel_rfl) (Args.v (.str a0) (eS a0) (by kernel_rfl) Args.nil) (ok31 m a0 v1 ev1 n (by omega)))) ?_
 refine Ops.sg 6 8 (Ops.dn (seqQ.n (Wp.sq (Wp.sq (Wp.rg (Ops.sg 4 4 ?_))))))
 refine Ops.hv (fun KQ => ∀ (d4 d5 d6 : D) (v7 v8 : Bool), f14_r5 m v1 v8 = some o → KQ 8 ⟨Zs6 a0 v1.1 (.v (.tuple [(vP eI v1.1), (.agg [(vI v1.2.fCode), (vI v1.2.fIndex)])])) (.v (.agg [(vI v1.2.fCode), (vI v1.2.fIndex)])) (.v (.agg [(vI 0), (vI 0)])) v7 (d4::d5::d6::(dB v8)::u28 []), [(b14_0 v1)]⟩) ?_ fun J14j9 => ?_
 ·intro d4 d5 d6 v7 v8 h
  unfold f14_r5 at h
  refine Ops.sg 1 9 ?_
  refine Ops.hv (fun KQ => ∀ (d12 d13 d14 : D) (v15 v16 : Bool), f14_r4 m v1 v16 = some o → KQ 13 ⟨Zs6 a0 v1.1 (.v (.tuple [(vP eI v1.1), (.agg [(vI v1.2.fCode), (vI v1.2.fIndex)])])) (.v (.agg [(vI v1.2.fCode), (vI v1.2.fIndex)])) (.v (.agg [(vI 0), (vI 0)])) v7 (d4::d5::d6::(dB v15)::(dB v15)::d12::d13::d14::(dB v16)::u23 []), [(b14_0 v1)]⟩) ?_ fun J14j17 => ?_
  ·intro d12 d13 d14 v15 v16 h
   unfold f14_r4 at h
   refine Ops.dn (seqQ.n ?_)
   refine Wp.cd h [2, 3] 1 (fun h => ?_) (fun h => ?_)
   ·refine Wp.sq (Wp.rg (Ops.sg 1 1 (Ops.dn (seqQ.n (Wp.rt (sqQ.r (seqQ.r ?_)))))))
    exact fnQ.r' (X14 n) (fun z => (eB z)) h (RetOk.mk' (dB false) (by kernel_rfl) (by kernel_rfl))
   ·refine Wp.sk (sqQ.n' (seqQ.n (Wp.sq (Wp.sq (Wp.rg (Ops.sg 1 1 ?_))))))
    refine Ops.on 2 (fun h0 e0 => (len_r (T := T) h0 97 3 .plain eI v1.1 (by kernel_rfl))) ?_
    refine Ops.sg 1 3 (Ops.dn (seqQ.n (Wp.bk 0 [2] 1 ?_)))
    have hLx101 : ∀ (kx69 : Nat) (v67 : Int)  (ox68 : Bool ⊕ (Int)), iter (fun (y : Int) => f14_B3 m v1 y) kx69 v67 = some ox68 → ∀ nx70, kx69 ≤ nx70 → (∀ r, ox68 = .inl r → ∀ σ, RetOk (X14 n) (resOf Proofs.Tryz.prog 14) (eB r) σ → (seqQ (X14 n) (cR (cR (cR (cR C14)))) (fnQ (X14 n).E.T (resOf Proofs.Tryz.prog 14) (eB o))) .ret σ) → (∀ (y : Int) , ox68 = .inr y → (seqQ (X14 n) (cR (cR (cR (cR C14)))) (fnQ (X14 n).E.T (resOf Proofs.Tryz.prog 14) (eB o))) .normal ⟨Zs31 v1.1 (v1.1.length : Int) ((dI y)::q20 []), [(b14_0 v1)]⟩) → Lp (X14 n) [2, 25, 26, 27] 1 (cL (cL (cR (cL (cR (cR (cR C14))))))) nx70 ⟨Zs31 v1.1 (v1.1.length : Int) ((dI v67)::q20 []), [(b14_0 v1)]⟩ (blkQ (X14 n) 0 [2] 1 (seqQ (X14 n) (cR (cR (cR (cR C14)))) (fnQ (X14 n).E.T (resOf Proofs.Tryz.prog 14) (eB o)))) := by
     intro kx69
     induction kx69 with
     | zero => intro v67  ox68 h; exact (iter_zero h).elim
     | succ kx69 ihx71 =>
      intro v67  ox68 h nx70 hnx74 hrx72 hxx73
      obtain ⟨nx70, rfl⟩ : ∃ q, nx70 = q + 1 := ⟨nx70 - 1, by omega⟩
      obtain ⟨sx75, h, hsx76⟩ := iter_some h
      have h : f14_B3 m v1 v67 = some sx75 := h
      unfold f14_B3 at h
      refine Lp.succ (Wp.sq (Wp.rg (Ops.sg 1 1 (Ops.dn (seqQ.n (Wp.sq ?_))))))
      refine Wp.cd h [2, 25, 26, 27] 1 (fun h => ?_) (fun h => ?_)
      ·refine Wp.sk (sqQ.n' (seqQ.n (Wp.sq (Wp.bk 1 [2, 25, 26, 27] 1 (Wp.sq (Wp.rg ?_))))))
       obtain ⟨v77, ev77, h⟩ := bnd_some h
       refine Ops.on 1 (fun h0 e0 => (ix_r (T := T) h0 97 3 1 .plain eI v1.1 v67 v77 ev77 (by kernel_rfl) (by kernel_rfl) (fun _ => rfl))) ?_
       refine Ops.sg 2 3 (Ops.dn (seqQ.n (Wp.sq (Wp.rg (Ops.sg 3 3 ?_)))))
       refine Ops.hv (fun KQ => ∀ (d80 d81 : D) (v82 v83 : Bool), f14_r2 m v67 v77 v83 = some sx75 → KQ 6 ⟨Zs17 v77 v1.1 (v1.1.length : Int) v67 (decide (v67 < (v1.1.length : Int))) (.vptr [(vI v77)]) v82 (d80::d81::(dB v83)::q11 []), [(b14_0 v1)]⟩) ?_ fun J14j84 => ?_
       ·intro d80 d81 v82 v83 h
        unfold f14_r2 at h
        refine Ops.sg 1 7 ?_
        refine Ops.hv (fun KQ => ∀ (d87 d88 d89 d90 d91 d92 d93 d94 : D) (v95 v96 : Bool), f14_r1 m v67 v96 = some sx75 → KQ 16 ⟨Zs17 v77 v1.1 (v1.1.length : Int) v67 (decide (v67 < (v1.1.length : Int))) (.vptr [(vI v77)]) v82 (d80::d81::(dB v95)::(dB v95)::d87::d88::d89::d90::d91::d92::d93::d94::(dB v96)::q1 []), [(b14_0 v1)]⟩) ?_ fun J14j97 => ?_
        ·intro d87 d88 d89 d90 d91 d92 d93 d94 v95 v96 h
         unfold f14_r1 at h
         refine Ops.dn (seqQ.n ?_)
         refine Wp.cd h [2, 25, 26, 27] 1 (fun h => ?_) (fun h => ?_)
         ·refine Wp.sq (Wp.rg (Ops.sg 1 1 (Ops.dn (seqQ.n (Wp.rt (sqQ.r (blkQ.r (seqQ.r ?_))))))))
          cases h
          refine lpQ.r (blkQ.r ?_)
          exact hrx72 _ hsx76 _ (RetOk.forget [2, 25, 26, 27] (by kernel_rfl) (RetOk.mk' (dB false) (by kernel_rfl) (by kernel_rfl)))
         ·refine Wp.sk (sqQ.n' (blkQ.n' (seqQ.n (Wp.rg (Ops.sg 2 2 (Ops.dn (lpQ.m ⟨Zs31 v1.1 (v1.1.length : Int) ((dI (w64 (v67 + 1)))::q20 []), [(b14_0 v1)]⟩ ?_)))))))
          cases h
          exact ihx71 (w64 (v67 + 1))  _ hsx76 _ (by omega) hrx72 hxx73
        obtain ⟨v96, ev96, h⟩ := bnd_some h
        refine Ops.hv (fun KQ => ∀ v85 : Bool, (cnd v85 (some true) (cnd (decide (v77 < 128)) (bnd (f32 m ((⟨#[32, 9, 10, 40, 41, 91, 93, 44, 59]⟩ : ByteArray)) (IntKind.u8.wrap v77)) fun v100 => some (decide (v100 ≥ 0))) (some false))) = some v96 → KQ 7 ⟨Zs17 v77 v1.1 (v1.1.length : Int) v67 (decide (v67 < (v1.1.length : Int))) (.vptr [(vI v77)]) v82 (d80::d81::(dB v85)::(dB v85)::q10 []), [(b14_0 v1)]⟩) ?_ fun G14g86 => Ops.sx (G14g86 v83 ev96)
        intro v85 ev96
        cases v85
        ·have ev96 := cnd_f ev96
         refine Ops.sg 3 10 ?_
         refine Ops.hv (fun KQ => ∀ v98 : Bool, (cnd v98 (bnd (f32 m ((⟨#[32, 9, 10, 40, 41, 91, 93, 44, 59]⟩ : ByteArray)) (IntKind.u8.wrap v77)) fun v100 => some (decide (v100 ≥ 0))) (some false)) = some v96 → KQ 10 ⟨Zs17 v77 v1.1 (v1.1.length : Int) v67 (decide (v67 < (v1.1.length : Int))) (.vptr [(vI v77)]) v82 (d80::d81::(dB false)::(dB false)::(dI v77)::(dB v98)::(dB v98)::q7 []), [(b14_0 v1)]⟩) ?_ fun G14g99 => Ops.sx (G14g99 (decide (v77 < 128)) ev96)
         intro v98 ev96
         cases v98
         ·have ev96 := cnd_f ev96
          refine Ops.sg 6 16 ?_
          exact Ops.sx (J14j97 (dI v77) (dB false) (dB false) U U U U (dB false) false false (some_sub (fun v96 => f14_r1 m v67 v96 = some sx75) ev96 h))
         ·have ev96 := cnd_t ev96
          refine Ops.sg 2 12 ?_
          obtain ⟨v100, ev100, ev96⟩ := bnd_some ev96
          refine Ops.on 13 (fun h0 e0 => (call_ok (E' := E) (h := h0) (by kernel_rfl) (Args.v (.str ((⟨#[32, 9, 10, 40, 41, 91, 93, 44, 59]⟩ : ByteArray))) (eS ((⟨#[32, 9, 10, 40, 41, 91, 93, 44, 59]⟩ : ByteArray))) (by kernel_rfl) (Args.v (.int .u8 (IntKind.u8.wrap v77)) ((eK .u8) (IntKind.u8.wrap v77)) (by kernel_rfl) Args.nil)) (ok32 m ((⟨#[32, 9, 10, 40, 41, 91, 93, 44, 59]⟩ : ByteArray)) (IntKind.u8.wrap v77) v100 ev100 n (by omega)))) ?_
          refine Ops.sg 3 16 ?_
          exact Ops.sx (J14j97 (dI v77) (dB true) (dB true) (dI v77) (.v (.int .u8 (IntKind.u8.wrap v77))) (dI v100) (dB (decide (v100 ≥ 0))) (dB (decide (v100 ≥ 0))) false (decide (v100 ≥ 0)) (some_sub (fun v96 => f14_r1 m v67 v96 = some sx75) ev96 h))
        ·have ev96 := cnd_t ev96
         refine Ops.sg 9 16 ?_
         exact Ops.sx (J14j97 U U U U U U U U true true (some_sub (fun v96 => f14_r1 m v67 v96 = some sx75) ev96 h))
       refine Ops.hv (fun KQ => ∀ v78 : Bool, f14_r2 m v67 v77 (v78 || (decide (v77 ≥ 983040))) = some sx75 → KQ 3 ⟨Zs17 v77 v1.1 (v1.1.length : Int) v67 (decide (v67 < (v1.1.length : Int))) (.vptr [(vI v77)]) v78 (q14 []), [(b14_0 v1)]⟩) ?_ fun G14g79 => Ops.sx (G14g79 (v77 == 0) h)
       intro v78 h
       cases v78
       ·refine Ops.sg 3 6 ?_
        exact Ops.sx (J14j84 (dI v77) (dB (decide (v77 ≥ 983040))) false (decide (v77 ≥ 983040)) h)
       ·refine Ops.sg 3 6 ?_
        exact Ops.sx (J14j84 U U true true h)
      ·refine Wp.ex 0 (sqQ.x (seqQ.x ?_))
       cases h
       refine lpQ.x (blkQ.w ⟨Zs31 v1.1 (v1.1.length : Int) ((dI v67)::q20 []), [(b14_0 v1)]⟩ ?_)
       exact hxx73 v67  hsx76
    refine Wp.loop' [2, 25, 26, 27] 1 (by kernel_rfl) ⟨Zs31 v1.1 (v1.1.length : Int) ((dI 0)::q20 []), [(b14_0 v1)]⟩ (by kernel_rfl) ?_
    rcases brk_some h with ⟨r103, er103, h⟩ | ⟨y102, ey102, h⟩
    ·refine hLx101 _ 0  _ er103 n (by omega) (fun r er σ hσ => ?_) (fun y  ey => by cases ey)
     cases er
     refine seqQ.r ?_
     exact fnQ.r' (X14 n) (fun z => (eB z)) h hσ
    ·refine hLx101 _ 0  _ ey102 n (by omega) (fun r er => by cases er) (fun y  ey => ?_)
     cases ey
     refine seqQ.n (Wp.sq (Wp.rg (Ops.sg 1 1 (Ops.dn (seqQ.n (Wp.rt ?_))))))
     exact fnQ.r' (X14 n) (fun z => (eB z)) h (RetOk.mk' (dB true) (by kernel_rfl) (by kernel_rfl))
  refine Ops.hv (fun KQ => ∀ v10 : Bool, f14_r4 m v1 (v10 || (decide ((v1.1.length : Int) > 30))) = some o → KQ 9 ⟨Zs6 a0 v1.1 (.v (.tuple [(vP eI v1.1), (.agg [(vI v1.2.fCode), (vI v1.2.fIndex)])])) (.v (.agg [(vI v1.2.fCode), (vI v1.2.fIndex)])) (.v (.agg [(vI 0), (vI 0)])) v7 (d4::d5::d6::(dB v10)::(dB v10)::u27 []), [(b14_0 v1)]⟩) ?_ fun G14g11 => Ops.sx (G14g11 v8 h)
  intro v10 h
  cases v10
  ·refine Ops.sg 1 10 ?_
   refine Ops.on 11 (fun h0 e0 => (len_r (T := T) h0 97 3 .plain eI v1.1 (by kernel_rfl))) ?_
   refine Ops.sg 2 13 ?_
   exact Ops.sx (J14j17 (dP eI v1.1) (dI (v1.1.length : Int)) (dB (decide ((v1.1.length : Int) > 30))) false (decide ((v1.1.length : Int) > 30)) h)
  ·refine Ops.sg 4 13 ?_
   exact Ops.sx (J14j17 U U U true true h)
 refine Ops.hv (fun KQ => ∀ v2 : Bool, f14_r5 m v1 (v2 || (decide ((v1.1.length : Int) < 1))) = some o → KQ 4 ⟨Zs6 a0 v1.1 (.v (.tuple [(vP eI v1.1), (.agg [(vI v1.2.fCode), (vI v1.2.fIndex)])])) (.v (.agg [(vI v1.2.fCode), (vI v1.2.fIndex)])) (.v (.agg [(vI 0), (vI 0)])) v2 (u32 []), [(b14_0 v1)]⟩) ?_ fun G14g3 => Ops.sx (G14g3 (!((v1.2.fCode == 0) && ((v1.2.fIndex == 0) && true))) h)
 intro v2 h
 cases v2
 ·refine Ops.sg 1 5 ?_
  refine Ops.on 6 (fun h0 e0 => (len_r (T := T) h0 97 3 .plain eI v1.1 (by kernel_rfl))) ?_
  refine Ops.sg 2 8 ?_
  exact Ops.sx (J14j9 (dP eI v1.1) (dI (v1.1.length : Int)) (dB (decide ((v1.1.length : Int) < 1))) false (decide ((v1.1.length : Int) < 1)) h)
 ·refine Ops.sg 4 8 ?_
  exact Ops.sx (J14j9 U U U true true h)
noncomputable def f33_r1 (m : Nat) (v88 : Int) (v127 : Bool) : Option (Stp Bool (Int)) :=
 cnd v127
 (some (.ret false))
 (some (.nxt (w64 (v88 + 1))))
noncomputable def f33_r2 (m : Nat) (v88 v98 : Int) (v104 : Bool) : Option (Stp Bool (Int)) :=
 f33_r1 m v88 ((!v104) && ((v88 == 0) || ((v98 != 95) && ((v98 != 45) && ((decide (v98 < 48)) || (decide (v98 > 57)))))))
noncomputable def f33_B3 (m : Nat) (a0 : ByteArray) (v88 : Int) : Option (Stp Bool (Int)) :=
 cnd (decide (v88 < (a0.size : Int)))
 (bnd (sidx a0 v88) fun v98 =>
 f33_r2 m v88 v98 ((decide (v98 ≥ 97)) && (decide (v98 ≤ 122))))
 (some (.brk v88))
noncomputable def f33_r4 (m : Nat) (a0 : ByteArray) (v7 : Bool) : Option Bool :=
 cnd v7
 (some false)
 (brk (iter (fun (y : Int) => f33_B3 m a0 y) m 0) some fun y138 =>
 some true)
noncomputable def f33 (m : Nat) (a0 : ByteArray) : Option Bool :=
 f33_r4 m a0 ((decide ((a0.size : Int) < 1)) || (decide ((a0.size : Int) > 30)))
noncomputable abbrev X33 (n : Nat) : Cx := cxOf Proofs.Tryz.prog E 33 n
noncomputable def C33 : Code := bodyOf Proofs.Tryz.prog 33
theorem ok33 (m : Nat) (a0 : ByteArray) (o : Bool) (h : f33 m a0 = some o) (n : Nat) (hn : m + 1 ≤ n) : Fn Proofs.Tryz.prog E n 33 [.v (eS a0)] (eB o) := by
 obtain ⟨n, rfl⟩ : ∃ q, n = q + 1 := ⟨n - 1, by omega⟩
 unfold f33 at h
 refine Fn.of (by kernel_rfl) (by kernel_rfl) (by kernel_rfl) ⟨(.v (.str a0))::u40 (u10 []), []⟩ (by kernel_rfl) (Wp.sq (Wp.rg (Ops.sg 1 1 (Ops.dn (seqQ.n (Wp.sq (Wp.sq (Wp.rg (Ops.sg 4 4 ?_)))))))))
 refine Ops.hv (fun KQ => ∀ (d3 d4 d5 : D) (v6 v7 : Bool), f33_r4 m a0 v7 = some o → KQ 8 ⟨(.v (.str a0))::u1 ((dB false)::u3 ((.v (.str a0))::(dI (a0.size : Int))::(dB v6)::(dB v6)::d3::d4::d5::(dB v7)::u37 [])), []⟩) ?_ fun J33j8 => ?_
 ·intro d3 d4 d5 v6 v7 h
  unfold f33_r4 at h
  refine Ops.dn (seqQ.n ?_)
  refine Wp.cd h [0, 2] 0 (fun h => ?_) (fun h => ?_)
  ·refine Wp.sq (Wp.rg (Ops.sg 1 1 (Ops.dn (seqQ.n (Wp.rt (sqQ.r (seqQ.r ?_)))))))
   exact fnQ.r' (X33 n) (fun z => (eB z)) h (RetOk.mk' (dB false) (by kernel_rfl) (by kernel_rfl))
  ·refine Wp.sk (sqQ.n' (seqQ.n (Wp.sq (Wp.sq (Wp.rg (Ops.sg 3 3 (Ops.dn (seqQ.n (Wp.bk 0 [2] 0 ?_)))))))))
   have hLx137 : ∀ (kx90 : Nat) (v88 : Int)  (ox89 : Bool ⊕ (Int)), iter (fun (y : Int) => f33_B3 m a0 y) kx90 v88 = some ox89 → ∀ nx91, kx90 ≤ nx91 → (∀ r, ox89 = .inl r → ∀ σ, RetOk (X33 n) (resOf Proofs.Tryz.prog 33) (eB r) σ → (seqQ (X33 n) (cR (cR (cR C33))) (fnQ (X33 n).E.T (resOf Proofs.Tryz.prog 33) (eB o))) .ret σ) → (∀ (y : Int) , ox89 = .inr y → (seqQ (X33 n) (cR (cR (cR C33))) (fnQ (X33 n).E.T (resOf Proofs.Tryz.prog 33) (eB o))) .normal ⟨Zs21 a0 (q12 ((dI (a0.size : Int))::(dI y)::q34 [])), []⟩) → Lp (X33 n) [0, 2, 15, 16] 0 (cL (cL (cR (cL (cR (cR C33)))))) nx91 ⟨Zs21 a0 (q12 ((dI (a0.size : Int))::(dI v88)::q34 [])), []⟩ (blkQ (X33 n) 0 [2] 0 (seqQ (X33 n) (cR (cR (cR C33))) (fnQ (X33 n).E.T (resOf Proofs.Tryz.prog 33) (eB o)))) := by
    intro kx90
    induction kx90 with
    | zero => intro v88  ox89 h; exact (iter_zero h).elim
    | succ kx90 ihx92 =>
     intro v88  ox89 h nx91 hnx95 hrx93 hxx94
     obtain ⟨nx91, rfl⟩ : ∃ q, nx91 = q + 1 := ⟨nx91 - 1, by omega⟩
     obtain ⟨sx96, h, hsx97⟩ := iter_some h
     have h : f33_B3 m a0 v88 = some sx96 := h
     unfold f33_B3 at h
     refine Lp.succ (Wp.sq (Wp.rg (Ops.sg 1 1 (Ops.dn (seqQ.n (Wp.sq ?_))))))
     refine Wp.cd h [0, 2, 15, 16] 0 (fun h => ?_) (fun h => ?_)
     ·refine Wp.sk (sqQ.n' (seqQ.n (Wp.sq (Wp.bk 1 [0, 2, 15, 16] 0 (Wp.sq (Wp.rg (Ops.sg 2 2 (Ops.dn (seqQ.n (Wp.sq (Wp.rg (Ops.sg 2 2 ?_))))))))))))
      obtain ⟨v98, ev98, h⟩ := bnd_some h
      refine Ops.on 3 (fun h0 e0 => (str_ix (T := T) h0 9 a0 v88 v98 ev98 (by kernel_rfl))) ?_
      refine Ops.sg 1 4 (Ops.dn (seqQ.n (Wp.sq (Wp.rg (Ops.sg 3 3 ?_)))))
      refine Ops.hv (fun KQ => ∀ (d101 d102 : D) (v103 v104 : Bool), f33_r2 m v88 v98 v104 = some sx96 → KQ 6 ⟨Zs21 a0 ((dI v88)::(.v (.int .u8 v98))::q10 ((dI (a0.size : Int))::(dI v88)::(dB (decide (v88 < (a0.size : Int))))::(dI v88)::(.v (.str a0))::(dI v88)::(.v (.int .u8 v98))::(.v (.int .u8 v98))::(dB v103)::(dB v103)::d101::d102::(dB v104)::q23 [])), []⟩) ?_ fun J33j105 => ?_
      ·intro d101 d102 v103 v104 h
       unfold f33_r2 at h
       refine Ops.sg 1 7 (Ops.dn (seqQ.n (Wp.sq (Wp.rg (Ops.sg 3 3 ?_)))))
       refine Ops.hv (fun KQ => ∀ (d108 d109 d110 d111 d112 d113 d114 d115 d116 d117 d118 d119 d120 d121 d122 d123 d124 d125 : D) (v126 v127 : Bool), f33_r1 m v88 v127 = some sx96 → KQ 22 ⟨Zs4 a0 v88 (.v (.int .u8 v98)) v104 (a0.size : Int) (decide (v88 < (a0.size : Int))) v103 d101 d102 ((dB v126)::(dB v126)::d108::d109::d110::d111::d112::d113::d114::d115::d116::d117::d118::d119::d120::d121::d122::d123::d124::d125::(dB v127)::q1 []), []⟩) ?_ fun J33j128 => ?_
       ·intro d108 d109 d110 d111 d112 d113 d114 d115 d116 d117 d118 d119 d120 d121 d122 d123 d124 d125 v126 v127 h
        unfold f33_r1 at h
        refine Ops.dn (seqQ.n ?_)
        refine Wp.cd h [0, 2, 15, 16] 0 (fun h => ?_) (fun h => ?_)
        ·refine Wp.sq (Wp.rg (Ops.sg 1 1 (Ops.dn (seqQ.n (Wp.rt (sqQ.r (blkQ.r (seqQ.r ?_))))))))
         cases h
         refine lpQ.r (blkQ.r ?_)
         exact hrx93 _ hsx97 _ (RetOk.forget [0, 2, 15, 16] (by kernel_rfl) (RetOk.mk' (dB false) (by kernel_rfl) (by kernel_rfl)))
        ·refine Wp.sk (sqQ.n' (blkQ.n' (seqQ.n (Wp.rg (Ops.sg 2 2 (Ops.dn (lpQ.m ⟨Zs21 a0 (q12 ((dI (a0.size : Int))::(dI (w64 (v88 + 1)))::q34 [])), []⟩ ?_)))))))
         cases h
         exact ihx92 (w64 (v88 + 1))  _ hsx97 _ (by omega) hrx93 hxx94
       refine Ops.hv (fun KQ => ∀ v106 : Bool, f33_r1 m v88 (v106 && ((v88 == 0) || ((v98 != 95) && ((v98 != 45) && ((decide (v98 < 48)) || (decide (v98 > 57))))))) = some sx96 → KQ 3 ⟨Zs4 a0 v88 (.v (.int .u8 v98)) v104 (a0.size : Int) (decide (v88 < (a0.size : Int))) v103 d101 d102 ((dB v106)::(dB v106)::q20 []), []⟩) ?_ fun G33g107 => Ops.sx (G33g107 (!v104) h)
       intro v106 h
       cases v106
       ·refine Ops.sg 19 22 ?_
        exact Ops.sx (J33j128 U U U U U U U U U U U U U U U U U U false false h)
       ·refine Ops.sg 3 6 ?_
        refine Ops.hv (fun KQ => ∀ v129 : Bool, (f33_r1 m v88 (true && (v129 || ((v98 != 95) && ((v98 != 45) && ((decide (v98 < 48)) || (decide (v98 > 57)))))))) = some sx96 → KQ 6 ⟨Zs4 a0 v88 (.v (.int .u8 v98)) v104 (a0.size : Int) (decide (v88 < (a0.size : Int))) v103 d101 d102 ((dB true)::(dB true)::(dI v88)::(dB v129)::(dB v129)::q17 []), []⟩) ?_ fun G33g130 => Ops.sx (G33g130 (v88 == 0) h)
        intro v129 h
        cases v129
        ·refine Ops.sg 3 9 ?_
         refine Ops.hv (fun KQ => ∀ v131 : Bool, (f33_r1 m v88 (true && (false || (v131 && ((v98 != 45) && ((decide (v98 < 48)) || (decide (v98 > 57)))))))) = some sx96 → KQ 9 ⟨Zs4 a0 v88 (.v (.int .u8 v98)) v104 (a0.size : Int) (decide (v88 < (a0.size : Int))) v103 d101 d102 ((dB true)::(dB true)::(dI v88)::(dB false)::(dB false)::(.v (.int .u8 v98))::(dB v131)::(dB v131)::q14 []), []⟩) ?_ fun G33g132 => Ops.sx (G33g132 (v98 != 95) h)
         intro v131 h
         cases v131
         ·refine Ops.sg 13 22 ?_
          exact Ops.sx (J33j128 (dI v88) (dB false) (dB false) (.v (.int .u8 v98)) (dB false) (dB false) U U (dB false) (dB false) U U U U U U (dB false) (dB false) true false h)
         ·refine Ops.sg 4 13 ?_
          refine Ops.hv (fun KQ => ∀ v133 : Bool, (f33_r1 m v88 (true && (false || (true && (v133 && ((decide (v98 < 48)) || (decide (v98 > 57)))))))) = some sx96 → KQ 13 ⟨Zs4 a0 v88 (.v (.int .u8 v98)) v104 (a0.size : Int) (decide (v88 < (a0.size : Int))) v103 d101 d102 ((dB true)::(dB true)::(dI v88)::(dB false)::(dB false)::(.v (.int .u8 v98))::(dB true)::(dB true)::(.v (.int .u8 v98))::(dB v133)::(dB v133)::(dB v133)::q10 []), []⟩) ?_ fun G33g134 => Ops.sx (G33g134 (v98 != 45) h)
          intro v133 h
          cases v133
          ·refine Ops.sg 9 22 ?_
           exact Ops.sx (J33j128 (dI v88) (dB false) (dB false) (.v (.int .u8 v98)) (dB true) (dB true) (.v (.int .u8 v98)) (dB false) (dB false) (dB false) U U U U U U (dB false) (dB false) true false h)
          ·refine Ops.sg 3 16 ?_
           refine Ops.hv (fun KQ => ∀ v135 : Bool, (f33_r1 m v88 (true && (false || (true && (true && (v135 || (decide (v98 > 57)))))))) = some sx96 → KQ 16 ⟨Zs4 a0 v88 (.v (.int .u8 v98)) v104 (a0.size : Int) (decide (v88 < (a0.size : Int))) v103 d101 d102 ((dB true)::(dB true)::(dI v88)::(dB false)::(dB false)::(.v (.int .u8 v98))::(dB true)::(dB true)::(.v (.int .u8 v98))::(dB true)::(dB true)::(dB true)::(.v (.int .u8 v98))::(dB v135)::(dB v135)::q7 []), []⟩) ?_ fun G33g136 => Ops.sx (G33g136 (decide (v98 < 48)) h)
           intro v135 h
           cases v135
           ·refine Ops.sg 6 22 ?_
            exact Ops.sx (J33j128 (dI v88) (dB false) (dB false) (.v (.int .u8 v98)) (dB true) (dB true) (.v (.int .u8 v98)) (dB true) (dB true) (dB true) (.v (.int .u8 v98)) (dB false) (dB false) (.v (.int .u8 v98)) (dB (decide (v98 > 57))) (dB (decide (v98 > 57))) (dB (decide (v98 > 57))) (dB (decide (v98 > 57))) true (decide (v98 > 57)) h)
           ·refine Ops.sg 6 22 ?_
            exact Ops.sx (J33j128 (dI v88) (dB false) (dB false) (.v (.int .u8 v98)) (dB true) (dB true) (.v (.int .u8 v98)) (dB true) (dB true) (dB true) (.v (.int .u8 v98)) (dB true) (dB true) U U (dB true) (dB true) (dB true) true true h)
        ·refine Ops.sg 16 22 ?_
         exact Ops.sx (J33j128 (dI v88) (dB true) (dB true) U U U U U U U U U U U U U U (dB true) true true h)
      refine Ops.hv (fun KQ => ∀ v99 : Bool, f33_r2 m v88 v98 (v99 && (decide (v98 ≤ 122))) = some sx96 → KQ 3 ⟨Zs21 a0 ((dI v88)::(.v (.int .u8 v98))::q10 ((dI (a0.size : Int))::(dI v88)::(dB (decide (v88 < (a0.size : Int))))::(dI v88)::(.v (.str a0))::(dI v88)::(.v (.int .u8 v98))::(.v (.int .u8 v98))::(dB v99)::(dB v99)::q26 [])), []⟩) ?_ fun G33g100 => Ops.sx (G33g100 (decide (v98 ≥ 97)) h)
      intro v99 h
      cases v99
      ·refine Ops.sg 3 6 ?_
       exact Ops.sx (J33j105 U U false false h)
      ·refine Ops.sg 3 6 ?_
       exact Ops.sx (J33j105 (.v (.int .u8 v98)) (dB (decide (v98 ≤ 122))) true (decide (v98 ≤ 122)) h)
     ·refine Wp.ex 0 (sqQ.x (seqQ.x ?_))
      cases h
      refine lpQ.x (blkQ.w ⟨Zs21 a0 (q12 ((dI (a0.size : Int))::(dI v88)::q34 [])), []⟩ ?_)
      exact hxx94 v88  hsx97
   refine Wp.loop' [0, 2, 15, 16] 0 (by kernel_rfl) ⟨Zs21 a0 (q12 ((dI (a0.size : Int))::(dI 0)::q34 [])), []⟩ (by kernel_rfl) ?_
   rcases brk_some h with ⟨r139, er139, h⟩ | ⟨y138, ey138, h⟩
   ·refine hLx137 _ 0  _ er139 n (by omega) (fun r er σ hσ => ?_) (fun y  ey => by cases ey)
    cases er
    refine seqQ.r ?_
    exact fnQ.r' (X33 n) (fun z => (eB z)) h hσ
   ·refine hLx137 _ 0  _ ey138 n (by omega) (fun r er => by cases er) (fun y  ey => ?_)
    cases ey
    refine seqQ.n (Wp.sq (Wp.rg (Ops.sg 1 1 (Ops.dn (seqQ.n (Wp.rt ?_))))))
    exact fnQ.r' (X33 n) (fun z => (eB z)) h (RetOk.mk' (dB true) (by kernel_rfl) (by kernel_rfl))
 refine Ops.hv (fun KQ => ∀ v1 : Bool, f33_r4 m a0 (v1 || (decide ((a0.size : Int) > 30))) = some o → KQ 4 ⟨(.v (.str a0))::u1 ((dB false)::u3 ((.v (.str a0))::(dI (a0.size : Int))::(dB v1)::(dB v1)::u40 (u1 []))), []⟩) ?_ fun G33g2 => Ops.sx (G33g2 (decide ((a0.size : Int) < 1)) h)
 intro v1 h
 cases v1
 ·refine Ops.sg 4 8 ?_
  exact Ops.sx (J33j8 (.v (.str a0)) (dI (a0.size : Int)) (dB (decide ((a0.size : Int) > 30))) false (decide ((a0.size : Int) > 30)) h)
 ·refine Ops.sg 4 8 ?_
  exact Ops.sx (J33j8 U U U true true h)
noncomputable def f42_j1 (m : Nat) (a0 : S75) (v13 : Bool) : Option (Bool × S75) :=
 some ((!v13, (⟨a0.fBase, w64 (a0.fNodes + 1), v13⟩ : S75)))
noncomputable def f42_r2 (m : Nat) (a0 : S75) (v6 : Bool) : Option (Bool × S75) :=
 cnd v6
 (f42_j1 m a0 true)
 (f42_j1 m a0 a0.fOver)
noncomputable def f42 (m : Nat) (a0 : S75) (a1 : Int) : Option (Bool × S75) :=
 f42_r2 m a0 ((decide (w64 (a0.fNodes + 1) > 2000)) || (decide (a1 > 40)))
noncomputable abbrev X42 (n : Nat) : Cx := cxOf Proofs.Tryz.prog E 42 n
noncomputable def C42 : Code := bodyOf Proofs.Tryz.prog 42
theorem ok42 (m : Nat) (a0 : S75) (a1 : Int) (o : (Bool × S75)) (h : f42 m a0 a1 = some o) (n : Nat) (hn : m + 1 ≤ n) : FnP Proofs.Tryz.prog E n 42 (c75 a0) [.v (eI a1)] (eB o.1) (c75 o.2) := by
 obtain ⟨n, rfl⟩ : ∃ q, n = q + 1 := ⟨n - 1, by omega⟩
 unfold f42 at h
 refine FnP.of (by kernel_rfl) (by kernel_rfl) (by kernel_rfl) ⟨(.ptr 0 0)::(dI a1)::u27 [], [(.cells [(.v (.str a0.fBase)), (dI a0.fNodes), (dB a0.fOver)])]⟩ (by kernel_rfl) (Wp.sq (Wp.rg (Ops.sg 1 1 (Ops.dn (seqQ.n (Wp.sq (Wp.rg (Ops.sg 8 8 (Ops.dn (seqQ.n (Wp.sq (Wp.sq (Wp.rg (Ops.sg 6 6 ?_))))))))))))))
 refine Ops.hv (fun KQ => ∀ (d3 d4 : D) (v5 v6 : Bool), f42_r2 m a0 v6 = some o → KQ 9 ⟨Zs5 a1 a0.fNodes (w64 (a0.fNodes + 1)) v5 (d3::d4::(dB v6)::u8 []), [(.cells [(.v (.str a0.fBase)), (dI (w64 (a0.fNodes + 1))), (dB a0.fOver)])]⟩) ?_ fun J42j7 => ?_
 ·intro d3 d4 v5 v6 h
  unfold f42_r2 at h
  refine Ops.dn (seqQ.n ?_)
  have J42j14 : ∀ (v13 : Bool) (d8 d9 d10 d11 d12 : D), f42_j1 m a0 v13 = some o → (seqQ (X42 n) (cR (cR (cR C42))) (fnQP (X42 n).E.T (resOf Proofs.Tryz.prog 42) (eB o.1) (c75 o.2))) .normal ⟨Zs5 a1 a0.fNodes (w64 (a0.fNodes + 1)) v5 (d8::d9::(dB v6)::d10::d11::d12::u5 []), [(.cells [(.v (.str a0.fBase)), (dI (w64 (a0.fNodes + 1))), (dB v13)])]⟩ := by
   intro v13 d8 d9 d10 d11 d12 h
   unfold f42_j1 at h
   refine seqQ.n (Wp.sq (Wp.rg (Ops.sg 6 6 (Ops.dn (seqQ.n (Wp.rt ?_))))))
   exact fnQP.r' (X42 n) (fun z => (eB z)) c75 h (RetOkP.mk' (dB (!v13)) (by kernel_rfl) (by kernel_rfl) (by kernel_rfl) (by kernel_rfl))
  refine Wp.cd h [0, 4] 1 (fun h => ?_) (fun h => ?_)
  ·refine Wp.rg (Ops.sg 4 4 (Ops.dn (sqQ.m ⟨Zs5 a1 a0.fNodes (w64 (a0.fNodes + 1)) v5 (d3::d4::(dB v6)::(.ptr 0 0)::(.ptr 0 0)::(.ptr 0 2)::u5 []), [(.cells [(.v (.str a0.fBase)), (dI (w64 (a0.fNodes + 1))), (dB true)])]⟩ ?_)))
   exact J42j14 true _ _ _ _ _ h
  ·refine Wp.sk (sqQ.m ⟨Zs5 a1 a0.fNodes (w64 (a0.fNodes + 1)) v5 (d3::d4::(dB v6)::u8 []), [(.cells [(.v (.str a0.fBase)), (dI (w64 (a0.fNodes + 1))), (dB a0.fOver)])]⟩ ?_)
   exact J42j14 a0.fOver _ _ _ _ _ h
 refine Ops.hv (fun KQ => ∀ v1 : Bool, f42_r2 m a0 (v1 || (decide (a1 > 40))) = some o → KQ 6 ⟨Zs5 a1 a0.fNodes (w64 (a0.fNodes + 1)) v1 (u11 []), [(.cells [(.v (.str a0.fBase)), (dI (w64 (a0.fNodes + 1))), (dB a0.fOver)])]⟩) ?_ fun G42g2 => Ops.sx (G42g2 (decide (w64 (a0.fNodes + 1) > 2000)) h)
 intro v1 h
 cases v1
 ·refine Ops.sg 3 9 ?_
  exact Ops.sx (J42j7 (dI a1) (dB (decide (a1 > 40))) false (decide (a1 > 40)) h)
 ·refine Ops.sg 3 9 ?_
  exact Ops.sx (J42j7 U U true true h)
structure Rec43 where
 r43 : S75 → S51 → Int → Option (S51 × S75)
structure OkRec43 (m : Nat) (K : Rec43) (nn : Nat) : Prop where
 ok43 : ∀ (a0 : S75) (a1 : S51) (a2 : Int) (o : (S51 × S75)), K.r43 a0 a1 a2 = some o → ∀ n, nn ≤ n → FnP Proofs.Tryz.prog E n 43 (c75 a0) [.v (e51 a1), .v (eI a2)] (e51 o.1) (c75 o.2)
noncomputable def f43_B1 (m : Nat) (K : Rec43) (a1 : S51) (a2 v13 : Int) (v14 : ByteArray) (v15 : Int) (v16 : Bool) (v17 : (List P51)) : Option (Stp (S51 × S75) (Int × ByteArray × Int × Bool × (List P51))) :=
 cnd (decide (v13 < (a1.fArgs.length : Int)))
 (bnd (idx a1.fArgs v13) fun v27 =>
 cnd v16
 (some (.brk (v13, v14, v15, v16, v17)))
 (bnd (K.r43 ((⟨v14, v15, v16⟩ : S75)) v27.vw (w64 (a2 + 1))) fun v28 =>
 bnd (app 40 v17 ([(P51.con v28.1)])) fun v29 =>
 some (.nxt (w64 (v13 + 1), v28.2.fBase, v28.2.fNodes, v28.2.fOver, v29))))
 (some (.brk (v13, v14, v15, v16, v17)))
noncomputable def b43 (m : Nat) (K : Rec43) (a0 : S75) (a1 : S51) (a2 : Int) : Option (S51 × S75) :=
 bnd (f42 m a0 a2) fun v1 =>
 cnd (!v1.1)
 (some (((⟨a1.fBase, []⟩ : S51), v1.2)))
 (brk (iter (fun (y : Int × ByteArray × Int × Bool × (List P51)) => f43_B1 m K a1 a2 y.1 y.2.1 y.2.2.1 y.2.2.2.1 y.2.2.2.2) m (0, v1.2.fBase, v1.2.fNodes, v1.2.fOver, [])) some fun y31 =>
 some (((⟨a1.fBase, y31.2.2.2.2⟩ : S51), (⟨y31.2.1, y31.2.2.1, y31.2.2.2.1⟩ : S75))))
noncomputable abbrev X43 (n : Nat) : Cx := cxOf Proofs.Tryz.prog E 43 n
noncomputable def C43 : Code := bodyOf Proofs.Tryz.prog 43
noncomputable abbrev b43_0 (w0 : S51) : AObj := .cells [(.v (.str w0.fBase)), (dP ep51 w0.fArgs)]
noncomputable abbrev b43_1 : AObj := .cells [(.v (.str ByteArray.empty)), (.v (.sl .nil (List.map ep51 [])))]
noncomputable abbrev b43_2 (w0 : ByteArray) (w1 : Int) (w2 : Bool) : AObj := .cells [(.v (.str w0)), (dI w1), (dB w2)]
theorem okb43 (m : Nat) (K : Rec43) (nn : Nat) (hK : OkRec43 m K nn) (a0 : S75) (a1 : S51) (a2 : Int) (o : (S51 × S75)) (h : b43 m K a0 a1 a2 = some o) (n : Nat) (hn : m + 2 ≤ n) (hk : nn + 1 ≤ n) : FnP Proofs.Tryz.prog E n 43 (c75 a0) [.v (e51 a1), .v (eI a2)] (e51 o.1) (c75 o.2) := by
 obtain ⟨n, rfl⟩ : ∃ q, n = q + 1 := ⟨n - 1, by omega⟩
 unfold b43 at h
 refine FnP.of (by kernel_rfl) (by kernel_rfl) (by kernel_rfl) ⟨(.ptr 0 0)::(.v (.agg [(.str a1.fBase), (vP ep51 a1.fArgs)]))::(dI a2)::u38 [], [(.cells [(.v (.str a0.fBase)), (dI a0.fNodes), (dB a0.fOver)])]⟩ (by kernel_rfl) (Wp.sq (Wp.rg (Ops.sg 2 2 (Ops.dn (seqQ.n (Wp.sq (Wp.rg (Ops.sg 5 5 (Ops.dn (seqQ.n (Wp.sq (Wp.sq (Wp.rg (Ops.sg 2 2 ?_))))))))))))))
 obtain ⟨v1, ev1, h⟩ := bnd_some h
 refine Ops.on 3 (fun h0 e0 => (call_ptr (E' := E) (h := h0) (q := 0) (cs := c75 a0) (by kernel_rfl) (by kernel_rfl) (by kernel_rfl) (hq_of e0 (by kernel_rfl)) (by kernel_rfl) (Args.v (vI a2) (eI a2) (by kernel_rfl) Args.nil) (ok42 m a0 a2 v1 ev1 n (by omega)))) ?_
 refine Ops.sg 1 4 (Ops.dn (seqQ.n ?_))
 refine Wp.cd h [0, 2, 4, 6, 7] 4 (fun h => ?_) (fun h => ?_)
 ·refine Wp.sq (Wp.rg (Ops.sg 2 2 (Ops.dn (seqQ.n (Wp.rt (sqQ.r (seqQ.r ?_)))))))
  exact fnQP.r' (X43 n) (fun z => (e51 z)) c75 h (RetOkP.mk' (.v (.agg [(.str a1.fBase), (.sl .nil (List.map ep51 []))])) (by kernel_rfl) (by kernel_rfl) (by kernel_rfl) (by kernel_rfl))
 ·refine Wp.sk (sqQ.n' (seqQ.n (Wp.sq (Wp.sq (Wp.rg (Ops.sg 2 2 ?_))))))
  refine Ops.on 3 (fun h0 e0 => (len_r (T := T) h0 50 52 .plain ep51 a1.fArgs (by kernel_rfl))) ?_
  refine Ops.sg 1 4 (Ops.dn (seqQ.n (Wp.bk 0 [6, 7] 5 ?_)))
  have hLx30 : ∀ (kx19 : Nat) (v13 : Int) (v14 : ByteArray) (v15 : Int) (v16 : Bool) (v17 : (List P51))  (ox18 : (S51 × S75) ⊕ (Int × ByteArray × Int × Bool × (List P51))), iter (fun (y : Int × ByteArray × Int × Bool × (List P51)) => f43_B1 m K a1 a2 y.1 y.2.1 y.2.2.1 y.2.2.2.1 y.2.2.2.2) kx19 (v13, v14, v15, v16, v17) = some ox18 → ∀ nx20, kx19 ≤ nx20 → (∀ r, ox18 = .inl r → ∀ σ, RetOkP (X43 n) (resOf Proofs.Tryz.prog 43) (e51 r.1) (c75 r.2) σ → (seqQ (X43 n) (cR (cR (cR (cR C43)))) (fnQP (X43 n).E.T (resOf Proofs.Tryz.prog 43) (e51 o.1) (c75 o.2))) .ret σ) → (∀ (y : Int × ByteArray × Int × Bool × (List P51)) , ox18 = .inr y → (seqQ (X43 n) (cR (cR (cR (cR C43)))) (fnQP (X43 n).E.T (resOf Proofs.Tryz.prog 43) (e51 o.1) (c75 o.2))) .normal ⟨Zs33 (q33 []), [(.cells [(.v (.str y.2.1)), (dI y.2.2.1), (dB y.2.2.2.1)]), (b43_0 a1), b43_1, (.cells [(.v (.str a1.fBase)), (appD 5 (List.map ep51 y.2.2.2.2))]), .dead, (appO 2 (List.map ep51 y.2.2.2.2))]⟩) → Lp (X43 n) [0, 2, 6, 7, 19, 20, 21] 5 (cL (cL (cR (cL (cR (cR (cR C43))))))) nx20 ⟨Zs10 a2 (q11 ((dP ep51 a1.fArgs)::(dI (a1.fArgs.length : Int))::(dI v13)::q19 [])), [(b43_2 v14 v15 v16), (b43_0 a1), b43_1, (.cells [(.v (.str a1.fBase)), (appD 5 (List.map ep51 v17))]), .dead, (appO 2 (List.map ep51 v17))]⟩ (blkQ (X43 n) 0 [6, 7] 5 (seqQ (X43 n) (cR (cR (cR (cR C43)))) (fnQP (X43 n).E.T (resOf Proofs.Tryz.prog 43) (e51 o.1) (c75 o.2)))) := by
   intro kx19
   induction kx19 with
   | zero => intro v13 v14 v15 v16 v17  ox18 h; exact (iter_zero h).elim
   | succ kx19 ihx21 =>
    intro v13 v14 v15 v16 v17  ox18 h nx20 hnx24 hrx22 hxx23
    obtain ⟨nx20, rfl⟩ : ∃ q, nx20 = q + 1 := ⟨nx20 - 1, by omega⟩
    obtain ⟨sx25, h, hsx26⟩ := iter_some h
    have h : f43_B1 m K a1 a2 v13 v14 v15 v16 v17 = some sx25 := h
    unfold f43_B1 at h
    refine Lp.succ (Wp.sq (Wp.rg (Ops.sg 1 1 (Ops.dn (seqQ.n (Wp.sq ?_))))))
    refine Wp.cd h [0, 2, 6, 7, 19, 20, 21] 6 (fun h => ?_) (fun h => ?_)
    ·refine Wp.sk (sqQ.n ⟨Zs10 a2 (q11 ((dP ep51 a1.fArgs)::(dI (a1.fArgs.length : Int))::(dI v13)::q19 [])), [(b43_2 v14 v15 v16), (b43_0 a1), b43_1, (.cells [(.v (.str a1.fBase)), (appD 6 (List.map ep51 v17))]), .dead, .dead, (appO 2 (List.map ep51 v17))]⟩ (by generalize v17 = z0; cases z0 <;> kernel_rfl) (seqQ.n (Wp.sq (Wp.bk 1 [0, 2, 6, 7, 19, 20, 21] 7 (Wp.sq (Wp.rg ?_))))))
     obtain ⟨v27, ev27, h⟩ := bnd_some h
     refine Ops.on 1 (fun h0 e0 => (ixb51 (ix_r (T := T) h0 50 52 2 .plain ep51 a1.fArgs v13 v27 ev27 (by kernel_rfl) (by kernel_rfl) ep51_len))) ?_
     refine Ops.sg 3 4 (Ops.dn (seqQ.n (Wp.sq (Wp.sq (Wp.rg (Ops.sg 4 4 (Ops.dn (seqQ.n ?_))))))))
     refine Wp.cd h [0, 2, 6, 7, 9, 19, 20, 21] 8 (fun h => ?_) (fun h => ?_)
     ·refine Wp.ex 0 (sqQ.x (seqQ.x (blkQ.y (by kernel_rfl) (seqQ.x ?_))))
      cases h
      refine lpQ.x (blkQ.x ⟨Zs33 (q33 []), [(b43_2 v14 v15 v16), (b43_0 a1), b43_1, (.cells [(.v (.str a1.fBase)), (appD 5 (List.map ep51 v17))]), .dead, (appO 2 (List.map ep51 v17))]⟩ (by generalize v17 = z0; cases z0 <;> kernel_rfl) ?_)
      exact hxx23 (v13, v14, v15, v16, v17)  hsx26
     ·refine Wp.sk (sqQ.n ⟨Zs10 a2 (q1 ((.ptr 7 0)::q9 ((dP ep51 a1.fArgs)::(dI (a1.fArgs.length : Int))::(dI v13)::q19 []))), [(b43_2 v14 v15 v16), (b43_0 a1), b43_1, (.cells [(.v (.str a1.fBase)), (appD 8 (List.map ep51 v17))]), .dead, .dead, .dead, (.cells [(.v (.str v27.vw.fBase)), (dP ep51 v27.vw.fArgs)]), (appO 2 (List.map ep51 v17))]⟩ (by generalize v17 = z0; cases z0 <;> kernel_rfl) (seqQ.n (Wp.regionF (by kernel_rfl) (Ops.sg 6 6 ?_))))
      obtain ⟨v28, ev28, h⟩ := bnd_some h
      refine Ops.on 7 (fun h0 e0 => (call_ptr (E' := E) (h := h0) (q := 0) (cs := c75 ((⟨v14, v15, v16⟩ : S75))) (by kernel_rfl) (by kernel_rfl) (by kernel_rfl) (hq_of e0 (by kernel_rfl)) (by kernel_rfl) (Args.v (.agg [(.str v27.vw.fBase), (vP ep51 v27.vw.fArgs)]) (e51 v27.vw) (by kernel_rfl) (Args.v (vI (w64 (a2 + 1))) (eI (w64 (a2 + 1))) (by kernel_rfl) Args.nil)) (hK.ok43 ((⟨v14, v15, v16⟩ : S75)) v27.vw (w64 (a2 + 1)) v28 ev28 n (by omega)))) ?_
      refine Ops.sg 1 8 ?_
      obtain ⟨v29, ev29, h⟩ := bnd_some h
      refine Ops.on 9 (fun h0 e0 => (app_r (T := T) (g := .nil) h0 50 52 8 2 ti52 .nonfull ep51 v17 ([(P51.con v28.1)]) v29 ev29 (by kernel_rfl) (by kernel_rfl) (by kernel_rfl) (by kernel_rfl) ep51_len (hq_of e0 (by kernel_rfl)))) ?_
      refine Ops.sg 1 10 ?_
      refine Ops.on 11 (fun h0 e0 => (st_l (i := ti50) (h := h0) (r := 3) (off := 1) (cs := [(.v (.str a1.fBase)), (appD 8 (List.map ep51 v17))]) (cs' := [(.v (.str a1.fBase)), (appD 9 (List.map ep51 v29))]) (x := (appD 9 (List.map ep51 v29))) (hq_of (g := [(.cells [(.v (.str v28.2.fBase)), (dI v28.2.fNodes), (dB v28.2.fOver)]), (b43_0 a1), b43_1, (.cells [(.v (.str a1.fBase)), (appD 8 (List.map ep51 v17))]), .dead, .dead, .dead, (.cells [(.v (.str v27.vw.fBase)), (dP ep51 v27.vw.fArgs)]), .dead, (appO 2 (List.map ep51 v29))]) (e0.trans (by kernel_rfl)) rfl) (by kernel_rfl) (appF_one _ _ _) (by rfl))) ?_
      refine Ops.dn (blkQ.n ⟨Zs10 a2 (q11 ((dP ep51 a1.fArgs)::(dI (a1.fArgs.length : Int))::(dI v13)::q19 [])), [(.cells [(.v (.str v28.2.fBase)), (dI v28.2.fNodes), (dB v28.2.fOver)]), (b43_0 a1), b43_1, (.cells [(.v (.str a1.fBase)), (appD 7 (List.map ep51 v29))]), .dead, .dead, .dead, (appO 2 (List.map ep51 v29))]⟩ (by generalize v29 = z0; cases z0 <;> kernel_rfl) (seqQ.n (Wp.rg (Ops.sg 2 2 (Ops.dn (lpQ.n ⟨Zs10 a2 (q11 ((dP ep51 a1.fArgs)::(dI (a1.fArgs.length : Int))::(dI (w64 (v13 + 1)))::q19 [])), [(.cells [(.v (.str v28.2.fBase)), (dI v28.2.fNodes), (dB v28.2.fOver)]), (b43_0 a1), b43_1, (.cells [(.v (.str a1.fBase)), (appD 5 (List.map ep51 v29))]), .dead, (appO 2 (List.map ep51 v29))]⟩ (by generalize v29 = z0; cases z0 <;> kernel_rfl) ?_))))))
      cases h
      exact ihx21 (w64 (v13 + 1)) v28.2.fBase v28.2.fNodes v28.2.fOver v29  _ hsx26 _ (by omega) hrx22 hxx23
    ·refine Wp.ex 0 (sqQ.x (seqQ.x ?_))
     cases h
     refine lpQ.x (blkQ.x ⟨Zs33 (q33 []), [(b43_2 v14 v15 v16), (b43_0 a1), b43_1, (.cells [(.v (.str a1.fBase)), (appD 5 (List.map ep51 v17))]), .dead, (appO 2 (List.map ep51 v17))]⟩ (by generalize v17 = z0; cases z0 <;> kernel_rfl) ?_)
     exact hxx23 (v13, v14, v15, v16, v17)  hsx26
  refine Wp.loop' [0, 2, 6, 7, 19, 20, 21] 5 (by kernel_rfl) ⟨Zs10 a2 (q11 ((dP ep51 a1.fArgs)::(dI (a1.fArgs.length : Int))::(dI 0)::q19 [])), [(.cells [(.v (.str v1.2.fBase)), (dI v1.2.fNodes), (dB v1.2.fOver)]), (b43_0 a1), b43_1, (.cells [(.v (.str a1.fBase)), (appD 5 (List.map ep51 []))]), .dead, .dead]⟩ (by kernel_rfl) ?_
  rcases brk_some h with ⟨r32, er32, h⟩ | ⟨y31, ey31, h⟩
  ·refine hLx30 _ 0 v1.2.fBase v1.2.fNodes v1.2.fOver []  _ er32 n (by omega) (fun r er σ hσ => ?_) (fun y  ey => by cases ey)
   cases er
   refine seqQ.r ?_
   exact fnQP.r' (X43 n) (fun z => (e51 z)) c75 h hσ
  ·refine hLx30 _ 0 v1.2.fBase v1.2.fNodes v1.2.fOver []  _ ey31 n (by omega) (fun r er => by cases er) (fun y  ey => ?_)
   cases ey
   refine seqQ.n (Wp.sq (Wp.rg (Ops.sg 1 1 ?_)))
   refine Ops.on 2 (fun h0 e0 => (st_s (i := ti52) (h := h0) (r := 2) (off := 0) (cs := [(.v (.str ByteArray.empty)), (.v (.sl .nil (List.map ep51 [])))]) (cs' := [(.v (.str a1.fBase)), (appD 5 (List.map ep51 y31.2.2.2.2))]) (ds := [(.v (.str a1.fBase)), (appD 5 (List.map ep51 y31.2.2.2.2))]) (hq_of (g := [(.cells [(.v (.str y31.2.1)), (dI y31.2.2.1), (dB y31.2.2.2.1)]), (b43_0 a1), b43_1, (.cells [(.v (.str a1.fBase)), (appD 5 (List.map ep51 y31.2.2.2.2))]), .dead, (appO 2 (List.map ep51 y31.2.2.2.2))]) (e0.trans (by kernel_rfl)) rfl) (by kernel_rfl) (all_sc rfl (all_sc (appF_sc _ _ _) rfl)) (by rfl))) ?_
   refine Ops.dn (seqQ.n (Wp.rt ?_))
   exact fnQP.r' (X43 n) (fun z => (e51 z)) c75 h (RetOkP.mk' (mkAgg [(.v (.str a1.fBase)), (appD 5 (List.map ep51 y31.2.2.2.2))]) (by kernel_rfl) (by kernel_rfl) (by kernel_rfl) (mkAgg_frz (.cons (.v (.str a1.fBase)) _ (by kernel_rfl) (by kernel_rfl) (.cons (appD 5 (List.map ep51 y31.2.2.2.2)) _ (appD_frz _ _ _ _) (appF_na _ _ _) .nil))))
noncomputable def K43 (m : Nat) : Nat → Rec43
 | 0 => ⟨fun _ _ _ => none⟩
 | r + 1 => ⟨fun a0 a1 a2 => b43 m (K43 m r) a0 a1 a2⟩
theorem okK43 (m : Nat) : ∀ r, OkRec43 m (K43 m r) (m + 2 + r)
 | 0 => ⟨fun _ _ _ o h => (by cases h)⟩
 | r + 1 => ⟨fun a0 a1 a2 o h n hn => okb43 m (K43 m r) (m + 2 + r) (okK43 m r) a0 a1 a2 o h n (by omega) (by omega)⟩
noncomputable def f43 (m : Nat) (a0 : S75) (a1 : S51) (a2 : Int) : Option (S51 × S75) := (K43 m m).r43 a0 a1 a2
theorem ok43 (m : Nat) (a0 : S75) (a1 : S51) (a2 : Int) (o : (S51 × S75)) (h : f43 m a0 a1 a2 = some o) (n : Nat) (hn : 2 * m + 2 ≤ n) : FnP Proofs.Tryz.prog E n 43 (c75 a0) [.v (e51 a1), .v (eI a2)] (e51 o.1) (c75 o.2) := (okK43 m m).ok43 a0 a1 a2 o h n (by omega)
structure Rec19 where
 r19 : S75 → S54 → Int → Option (S54 × S75)
structure OkRec19 (m : Nat) (K : Rec19) (nn : Nat) : Prop where
 ok19 : ∀ (a0 : S75) (a1 : S54) (a2 : Int) (o : (S54 × S75)), K.r19 a0 a1 a2 = some o → ∀ n, nn ≤ n → FnP Proofs.Tryz.prog E n 19 (c75 a0) [.v (e54 a1), .v (eI a2)] (e54 o.1) (c75 o.2)
noncomputable def f19_B1 (m : Nat) (K : Rec19) (a1 : S54) (a2 v24 : Int) (v25 : ByteArray) (v26 : Int) (v27 : Bool) (v28 : (List P54)) : Option (Stp (S54 × S75) (Int × ByteArray × Int × Bool × (List P54))) :=
 cnd (decide (v24 < (a1.fArgs.length : Int)))
 (bnd (idx a1.fArgs v24) fun v38 =>
 cnd v27
 (some (.brk (v24, v25, v26, v27, v28)))
 (bnd (K.r19 ((⟨v25, v26, v27⟩ : S75)) v38.vw (w64 (a2 + 1))) fun v39 =>
 bnd (app 96 v28 ([(P54.con v39.1)])) fun v40 =>
 some (.nxt (w64 (v24 + 1), v39.2.fBase, v39.2.fNodes, v39.2.fOver, v40))))
 (some (.brk (v24, v25, v26, v27, v28)))
noncomputable def f19_j2 (m : Nat) (K : Rec19) (a0 : S75) (a1 : S54) (a2 : Int) (v9 : ByteArray) : Option (S54 × S75) :=
 bnd (f42 m a0 a2) fun v11 =>
 cnd (!v11.1)
 (some (((⟨a1.fKind, v9, a1.fIndex, (⟨ByteArray.empty, []⟩ : S51), []⟩ : S54), v11.2)))
 (bnd (f43 m v11.2 a1.fType a2) fun v12 =>
 brk (iter (fun (y : Int × ByteArray × Int × Bool × (List P54)) => f19_B1 m K a1 a2 y.1 y.2.1 y.2.2.1 y.2.2.2.1 y.2.2.2.2) m (0, v12.2.fBase, v12.2.fNodes, v12.2.fOver, [])) some fun y42 =>
 some (((⟨a1.fKind, v9, a1.fIndex, v12.1, y42.2.2.2.2⟩ : S54), (⟨y42.2.1, y42.2.2.1, y42.2.2.2.1⟩ : S75))))
noncomputable def f19_r3 (m : Nat) (K : Rec19) (a0 : S75) (a1 : S54) (a2 : Int) (v7 : Bool) : Option (S54 × S75) :=
 cnd v7
 (f19_j2 m K a0 a1 a2 a0.fBase)
 (f19_j2 m K a0 a1 a2 a1.fName)
noncomputable def b19 (m : Nat) (K : Rec19) (a0 : S75) (a1 : S54) (a2 : Int) : Option (S54 × S75) :=
 f19_r3 m K a0 a1 a2 ((a1.fKind == 1) && (a1.fName.toList == (⟨#[42]⟩ : ByteArray).toList))
noncomputable abbrev X19 (n : Nat) : Cx := cxOf Proofs.Tryz.prog E 19 n
noncomputable def C19 : Code := bodyOf Proofs.Tryz.prog 19
noncomputable abbrev b19_0 (w0 : S75) : AObj := .cells [(.v (.str w0.fBase)), (dI w0.fNodes), (dB w0.fOver)]
noncomputable abbrev b19_1 (w0 : S54) : AObj := .cells [(dI w0.fKind), (.v (.str w0.fName)), (dI w0.fIndex), (.v (.str w0.fType.fBase)), (dP ep51 w0.fType.fArgs), (dP ep54 w0.fArgs)]
noncomputable abbrev b19_2 : AObj := .cells [(dI 0), (.v (.str ByteArray.empty)), (dI 0), (.v (.str ByteArray.empty)), (.v (.sl .nil (List.map ep51 []))), (.v (.sl .nil (List.map ep54 [])))]
noncomputable abbrev b19_3 (w0 : S54) : AObj := .cells [(dI w0.fKind), (.v (.str w0.fName)), (dI w0.fIndex), (.v (.str ByteArray.empty)), (.v (.sl .nil (List.map ep51 []))), (.v (.sl .nil (List.map ep54 [])))]
noncomputable abbrev b19_4 (w0 : ByteArray) (w1 : Int) (w2 : Bool) : AObj := .cells [(.v (.str w0)), (dI w1), (dB w2)]
theorem okb19 (m : Nat) (K : Rec19) (nn : Nat) (hK : OkRec19 m K nn) (a0 : S75) (a1 : S54) (a2 : Int) (o : (S54 × S75)) (h : b19 m K a0 a1 a2 = some o) (n : Nat) (hn : 2 * m + 3 ≤ n) (hk : nn + 1 ≤ n) : FnP Proofs.Tryz.prog E n 19 (c75 a0) [.v (e54 a1), .v (eI a2)] (e54 o.1) (c75 o.2) := by
 obtain ⟨n, rfl⟩ : ∃ q, n = q + 1 := ⟨n - 1, by omega⟩
 unfold b19 at h
 refine FnP.of (by kernel_rfl) (by kernel_rfl) (by kernel_rfl) ⟨(.ptr 0 0)::(.v (.agg [(vI a1.fKind), (.str a1.fName), (vI a1.fIndex), (.str a1.fType.fBase), (vP ep51 a1.fType.fArgs), (vP ep54 a1.fArgs)]))::(dI a2)::u40 (u21 []), [(b19_0 a0)]⟩ (by kernel_rfl) (Wp.sq (Wp.rg (Ops.sg 2 2 (Ops.dn (seqQ.n (Wp.sq (Wp.rg (Ops.sg 9 9 (Ops.dn (seqQ.n (Wp.sq (Wp.sq (Wp.rg (Ops.sg 4 4 ?_))))))))))))))
 refine Ops.hv (fun KQ => ∀ (d3 d4 d5 : D) (v6 v7 : Bool), f19_r3 m K a0 a1 a2 v7 = some o → KQ 8 ⟨Zs28 (.v (.agg [(vI a1.fKind), (.str a1.fName), (vI a1.fIndex), (.str a1.fType.fBase), (vP ep51 a1.fType.fArgs), (vP ep54 a1.fArgs)])) a2 a1.fKind a1.fName a1.fIndex (.v (.agg [(vI a1.fKind), (.str a1.fName), (vI a1.fIndex), (.str ByteArray.empty), (.sl .nil (List.map ep51 [])), (.sl .nil (List.map ep54 []))])) v6 (d3::d4::d5::(dB v7)::u39 []), [(b19_0 a0), (b19_1 a1), b19_2, (b19_3 a1)]⟩) ?_ fun J19j8 => ?_
 ·intro d3 d4 d5 v6 v7 h
  unfold f19_r3 at h
  refine Ops.dn (seqQ.n ?_)
  have J19j10 : ∀ (v9 : ByteArray) , f19_j2 m K a0 a1 a2 v9 = some o → (seqQ (X19 n) (cR (cR (cR C19))) (fnQP (X19 n).E.T (resOf Proofs.Tryz.prog 19) (e54 o.1) (c75 o.2))) .normal ⟨Zs23 a2 (q1 ((.ptr 1 0)::q1 ((.ptr 2 0)::(.ptr 3 0)::q40 (q16 [])))), [(b19_0 a0), (b19_1 a1), b19_2, (.cells [(dI a1.fKind), (.v (.str v9)), (dI a1.fIndex), (.v (.str ByteArray.empty)), (.v (.sl .nil (List.map ep51 []))), (.v (.sl .nil (List.map ep54 [])))]), .dead]⟩ := by
   intro v9  h
   unfold f19_j2 at h
   refine seqQ.n (Wp.sq (Wp.sq (Wp.rg (Ops.sg 2 2 ?_))))
   obtain ⟨v11, ev11, h⟩ := bnd_some h
   refine Ops.on 3 (fun h0 e0 => (call_ptr (E' := E) (h := h0) (q := 0) (cs := c75 a0) (by kernel_rfl) (by kernel_rfl) (by kernel_rfl) (hq_of e0 (by kernel_rfl)) (by kernel_rfl) (Args.v (vI a2) (eI a2) (by kernel_rfl) Args.nil) (ok42 m a0 a2 v11 ev11 n (by omega)))) ?_
   refine Ops.sg 1 4 (Ops.dn (seqQ.n ?_))
   refine Wp.cd h [0, 2, 4, 6, 7] 5 (fun h => ?_) (fun h => ?_)
   ·refine Wp.sq (Wp.rg (Ops.sg 2 2 (Ops.dn (seqQ.n (Wp.rt (sqQ.r (seqQ.r ?_)))))))
    exact fnQP.r' (X19 n) (fun z => (e54 z)) c75 h (RetOkP.mk' (.v (.agg [(vI a1.fKind), (.str v9), (vI a1.fIndex), (.str ByteArray.empty), (.sl .nil (List.map ep51 [])), (.sl .nil (List.map ep54 []))])) (by kernel_rfl) (by kernel_rfl) (by kernel_rfl) (by kernel_rfl))
   ·refine Wp.sk (sqQ.n' (seqQ.n (Wp.sq (Wp.rg (Ops.sg 4 4 ?_)))))
    obtain ⟨v12, ev12, h⟩ := bnd_some h
    refine Ops.on 5 (fun h0 e0 => (call_ptr (E' := E) (h := h0) (q := 0) (cs := c75 v11.2) (by kernel_rfl) (by kernel_rfl) (by kernel_rfl) (hq_of e0 (by kernel_rfl)) (by kernel_rfl) (Args.v (.agg [(.str a1.fType.fBase), (vP ep51 a1.fType.fArgs)]) (e51 a1.fType) (by kernel_rfl) (Args.v (vI a2) (eI a2) (by kernel_rfl) Args.nil)) (ok43 m v11.2 a1.fType a2 v12 ev12 n (by omega)))) ?_
    refine Ops.sg 2 7 (Ops.dn (seqQ.n (Wp.sq (Wp.sq (Wp.rg (Ops.sg 2 2 ?_))))))
    refine Ops.on 3 (fun h0 e0 => (len_r (T := T) h0 53 55 .plain ep54 a1.fArgs (by kernel_rfl))) ?_
    refine Ops.sg 1 4 (Ops.dn (seqQ.n (Wp.bk 0 [6, 7] 6 ?_)))
    have hLx41 : ∀ (kx30 : Nat) (v24 : Int) (v25 : ByteArray) (v26 : Int) (v27 : Bool) (v28 : (List P54))  (ox29 : (S54 × S75) ⊕ (Int × ByteArray × Int × Bool × (List P54))), iter (fun (y : Int × ByteArray × Int × Bool × (List P54)) => f19_B1 m K a1 a2 y.1 y.2.1 y.2.2.1 y.2.2.2.1 y.2.2.2.2) kx30 (v24, v25, v26, v27, v28) = some ox29 → ∀ nx31, kx30 ≤ nx31 → (∀ r, ox29 = .inl r → ∀ σ, RetOkP (X19 n) (resOf Proofs.Tryz.prog 19) (e54 r.1) (c75 r.2) σ → (seqQ (X19 n) (cR (cR (cR (cR (cR (cR C19)))))) (fnQP (X19 n).E.T (resOf Proofs.Tryz.prog 19) (e54 o.1) (c75 o.2))) .ret σ) → (∀ (y : Int × ByteArray × Int × Bool × (List P54)) , ox29 = .inr y → (seqQ (X19 n) (cR (cR (cR (cR (cR (cR C19)))))) (fnQP (X19 n).E.T (resOf Proofs.Tryz.prog 19) (e54 o.1) (c75 o.2))) .normal ⟨Zs33 (q40 (q16 [])), [(.cells [(.v (.str y.2.1)), (dI y.2.2.1), (dB y.2.2.2.1)]), (b19_1 a1), b19_2, (.cells [(dI a1.fKind), (.v (.str v9)), (dI a1.fIndex), (.v (.str v12.1.fBase)), (dP ep51 v12.1.fArgs), (appD 6 (List.map ep54 y.2.2.2.2))]), .dead, .dead, (appO 6 (List.map ep54 y.2.2.2.2))]⟩) → Lp (X19 n) [0, 2, 6, 7, 42, 43, 44] 6 (cL (cL (cR (cL (cR (cR (cR (cR (cR C19))))))))) nx31 ⟨Zs10 a2 (q34 ((dP ep54 a1.fArgs)::(dI (a1.fArgs.length : Int))::(dI v24)::q19 [])), [(b19_4 v25 v26 v27), (b19_1 a1), b19_2, (.cells [(dI a1.fKind), (.v (.str v9)), (dI a1.fIndex), (.v (.str v12.1.fBase)), (dP ep51 v12.1.fArgs), (appD 6 (List.map ep54 v28))]), .dead, .dead, (appO 6 (List.map ep54 v28))]⟩ (blkQ (X19 n) 0 [6, 7] 6 (seqQ (X19 n) (cR (cR (cR (cR (cR (cR C19)))))) (fnQP (X19 n).E.T (resOf Proofs.Tryz.prog 19) (e54 o.1) (c75 o.2)))) := by
     intro kx30
     induction kx30 with
     | zero => intro v24 v25 v26 v27 v28  ox29 h; exact (iter_zero h).elim
     | succ kx30 ihx32 =>
      intro v24 v25 v26 v27 v28  ox29 h nx31 hnx35 hrx33 hxx34
      obtain ⟨nx31, rfl⟩ : ∃ q, nx31 = q + 1 := ⟨nx31 - 1, by omega⟩
      obtain ⟨sx36, h, hsx37⟩ := iter_some h
      have h : f19_B1 m K a1 a2 v24 v25 v26 v27 v28 = some sx36 := h
      unfold f19_B1 at h
      refine Lp.succ (Wp.sq (Wp.rg (Ops.sg 1 1 (Ops.dn (seqQ.n (Wp.sq ?_))))))
      refine Wp.cd h [0, 2, 6, 7, 42, 43, 44] 7 (fun h => ?_) (fun h => ?_)
      ·refine Wp.sk (sqQ.n ⟨Zs10 a2 (q34 ((dP ep54 a1.fArgs)::(dI (a1.fArgs.length : Int))::(dI v24)::q19 [])), [(b19_4 v25 v26 v27), (b19_1 a1), b19_2, (.cells [(dI a1.fKind), (.v (.str v9)), (dI a1.fIndex), (.v (.str v12.1.fBase)), (dP ep51 v12.1.fArgs), (appD 7 (List.map ep54 v28))]), .dead, .dead, .dead, (appO 6 (List.map ep54 v28))]⟩ (by generalize v28 = z0; cases z0 <;> kernel_rfl) (seqQ.n (Wp.sq (Wp.bk 1 [0, 2, 6, 7, 42, 43, 44] 8 (Wp.sq (Wp.rg ?_))))))
       obtain ⟨v38, ev38, h⟩ := bnd_some h
       refine Ops.on 1 (fun h0 e0 => (ixb54 (ix_r (T := T) h0 53 55 6 .plain ep54 a1.fArgs v24 v38 ev38 (by kernel_rfl) (by kernel_rfl) ep54_len))) ?_
       refine Ops.sg 3 4 (Ops.dn (seqQ.n (Wp.sq (Wp.sq (Wp.rg (Ops.sg 4 4 (Ops.dn (seqQ.n ?_))))))))
       refine Wp.cd h [0, 2, 6, 7, 9, 42, 43, 44] 9 (fun h => ?_) (fun h => ?_)
       ·refine Wp.ex 0 (sqQ.x (seqQ.x (blkQ.y (by kernel_rfl) (seqQ.x ?_))))
        cases h
        refine lpQ.x (blkQ.x ⟨Zs33 (q40 (q16 [])), [(b19_4 v25 v26 v27), (b19_1 a1), b19_2, (.cells [(dI a1.fKind), (.v (.str v9)), (dI a1.fIndex), (.v (.str v12.1.fBase)), (dP ep51 v12.1.fArgs), (appD 6 (List.map ep54 v28))]), .dead, .dead, (appO 6 (List.map ep54 v28))]⟩ (by generalize v28 = z0; cases z0 <;> kernel_rfl) ?_)
        exact hxx34 (v24, v25, v26, v27, v28)  hsx37
       ·refine Wp.sk (sqQ.n ⟨Zs10 a2 (q1 ((.ptr 8 0)::q32 ((dP ep54 a1.fArgs)::(dI (a1.fArgs.length : Int))::(dI v24)::q19 []))), [(b19_4 v25 v26 v27), (b19_1 a1), b19_2, (.cells [(dI a1.fKind), (.v (.str v9)), (dI a1.fIndex), (.v (.str v12.1.fBase)), (dP ep51 v12.1.fArgs), (appD 9 (List.map ep54 v28))]), .dead, .dead, .dead, .dead, (.cells [(dI v38.vw.fKind), (.v (.str v38.vw.fName)), (dI v38.vw.fIndex), (.v (.str v38.vw.fType.fBase)), (dP ep51 v38.vw.fType.fArgs), (dP ep54 v38.vw.fArgs)]), (appO 6 (List.map ep54 v28))]⟩ (by generalize v28 = z0; cases z0 <;> kernel_rfl) (seqQ.n (Wp.regionF (by kernel_rfl) (Ops.sg 6 6 ?_))))
        obtain ⟨v39, ev39, h⟩ := bnd_some h
        refine Ops.on 7 (fun h0 e0 => (call_ptr (E' := E) (h := h0) (q := 0) (cs := c75 ((⟨v25, v26, v27⟩ : S75))) (by kernel_rfl) (by kernel_rfl) (by kernel_rfl) (hq_of e0 (by kernel_rfl)) (by kernel_rfl) (Args.v (.agg [(vI v38.vw.fKind), (.str v38.vw.fName), (vI v38.vw.fIndex), (.str v38.vw.fType.fBase), (vP ep51 v38.vw.fType.fArgs), (vP ep54 v38.vw.fArgs)]) (e54 v38.vw) (by kernel_rfl) (Args.v (vI (w64 (a2 + 1))) (eI (w64 (a2 + 1))) (by kernel_rfl) Args.nil)) (hK.ok19 ((⟨v25, v26, v27⟩ : S75)) v38.vw (w64 (a2 + 1)) v39 ev39 n (by omega)))) ?_
        refine Ops.sg 1 8 ?_
        obtain ⟨v40, ev40, h⟩ := bnd_some h
        refine Ops.on 9 (fun h0 e0 => (app_r (T := T) (g := .nil) h0 53 55 9 6 ti55 .nonfull ep54 v28 ([(P54.con v39.1)]) v40 ev40 (by kernel_rfl) (by kernel_rfl) (by kernel_rfl) (by kernel_rfl) ep54_len (hq_of e0 (by kernel_rfl)))) ?_
        refine Ops.sg 1 10 ?_
        refine Ops.on 11 (fun h0 e0 => (st_l (i := ti53) (h := h0) (r := 3) (off := 5) (cs := [(dI a1.fKind), (.v (.str v9)), (dI a1.fIndex), (.v (.str v12.1.fBase)), (dP ep51 v12.1.fArgs), (appD 9 (List.map ep54 v28))]) (cs' := [(dI a1.fKind), (.v (.str v9)), (dI a1.fIndex), (.v (.str v12.1.fBase)), (dP ep51 v12.1.fArgs), (appD 10 (List.map ep54 v40))]) (x := (appD 10 (List.map ep54 v40))) (hq_of (g := [(.cells [(.v (.str v39.2.fBase)), (dI v39.2.fNodes), (dB v39.2.fOver)]), (b19_1 a1), b19_2, (.cells [(dI a1.fKind), (.v (.str v9)), (dI a1.fIndex), (.v (.str v12.1.fBase)), (dP ep51 v12.1.fArgs), (appD 9 (List.map ep54 v28))]), .dead, .dead, .dead, .dead, (.cells [(dI v38.vw.fKind), (.v (.str v38.vw.fName)), (dI v38.vw.fIndex), (.v (.str v38.vw.fType.fBase)), (dP ep51 v38.vw.fType.fArgs), (dP ep54 v38.vw.fArgs)]), .dead, (appO 6 (List.map ep54 v40))]) (e0.trans (by kernel_rfl)) rfl) (by kernel_rfl) (appF_one _ _ _) (by rfl))) ?_
        refine Ops.dn (blkQ.n ⟨Zs10 a2 (q34 ((dP ep54 a1.fArgs)::(dI (a1.fArgs.length : Int))::(dI v24)::q19 [])), [(.cells [(.v (.str v39.2.fBase)), (dI v39.2.fNodes), (dB v39.2.fOver)]), (b19_1 a1), b19_2, (.cells [(dI a1.fKind), (.v (.str v9)), (dI a1.fIndex), (.v (.str v12.1.fBase)), (dP ep51 v12.1.fArgs), (appD 8 (List.map ep54 v40))]), .dead, .dead, .dead, .dead, (appO 6 (List.map ep54 v40))]⟩ (by generalize v40 = z0; cases z0 <;> kernel_rfl) (seqQ.n (Wp.rg (Ops.sg 2 2 (Ops.dn (lpQ.n ⟨Zs10 a2 (q34 ((dP ep54 a1.fArgs)::(dI (a1.fArgs.length : Int))::(dI (w64 (v24 + 1)))::q19 [])), [(.cells [(.v (.str v39.2.fBase)), (dI v39.2.fNodes), (dB v39.2.fOver)]), (b19_1 a1), b19_2, (.cells [(dI a1.fKind), (.v (.str v9)), (dI a1.fIndex), (.v (.str v12.1.fBase)), (dP ep51 v12.1.fArgs), (appD 6 (List.map ep54 v40))]), .dead, .dead, (appO 6 (List.map ep54 v40))]⟩ (by generalize v40 = z0; cases z0 <;> kernel_rfl) ?_))))))
        cases h
        exact ihx32 (w64 (v24 + 1)) v39.2.fBase v39.2.fNodes v39.2.fOver v40  _ hsx37 _ (by omega) hrx33 hxx34
      ·refine Wp.ex 0 (sqQ.x (seqQ.x ?_))
       cases h
       refine lpQ.x (blkQ.x ⟨Zs33 (q40 (q16 [])), [(b19_4 v25 v26 v27), (b19_1 a1), b19_2, (.cells [(dI a1.fKind), (.v (.str v9)), (dI a1.fIndex), (.v (.str v12.1.fBase)), (dP ep51 v12.1.fArgs), (appD 6 (List.map ep54 v28))]), .dead, .dead, (appO 6 (List.map ep54 v28))]⟩ (by generalize v28 = z0; cases z0 <;> kernel_rfl) ?_)
       exact hxx34 (v24, v25, v26, v27, v28)  hsx37
    refine Wp.loop' [0, 2, 6, 7, 42, 43, 44] 6 (by kernel_rfl) ⟨Zs10 a2 (q34 ((dP ep54 a1.fArgs)::(dI (a1.fArgs.length : Int))::(dI 0)::q19 [])), [(.cells [(.v (.str v12.2.fBase)), (dI v12.2.fNodes), (dB v12.2.fOver)]), (b19_1 a1), b19_2, (.cells [(dI a1.fKind), (.v (.str v9)), (dI a1.fIndex), (.v (.str v12.1.fBase)), (dP ep51 v12.1.fArgs), (appD 6 (List.map ep54 []))]), .dead, .dead, .dead]⟩ (by kernel_rfl) ?_
    rcases brk_some h with ⟨r43, er43, h⟩ | ⟨y42, ey42, h⟩
    ·refine hLx41 _ 0 v12.2.fBase v12.2.fNodes v12.2.fOver []  _ er43 n (by omega) (fun r er σ hσ => ?_) (fun y  ey => by cases ey)
     cases er
     refine seqQ.r ?_
     exact fnQP.r' (X19 n) (fun z => (e54 z)) c75 h hσ
    ·refine hLx41 _ 0 v12.2.fBase v12.2.fNodes v12.2.fOver []  _ ey42 n (by omega) (fun r er => by cases er) (fun y  ey => ?_)
     cases ey
     refine seqQ.n (Wp.sq (Wp.rg (Ops.sg 1 1 ?_)))
     refine Ops.on 2 (fun h0 e0 => (st_s (i := ti55) (h := h0) (r := 2) (off := 0) (cs := [(dI 0), (.v (.str ByteArray.empty)), (dI 0), (.v (.str ByteArray.empty)), (.v (.sl .nil (List.map ep51 []))), (.v (.sl .nil (List.map ep54 [])))]) (cs' := [(dI a1.fKind), (.v (.str v9)), (dI a1.fIndex), (.v (.str v12.1.fBase)), (dP ep51 v12.1.fArgs), (appD 6 (List.map ep54 y42.2.2.2.2))]) (ds := [(dI a1.fKind), (.v (.str v9)), (dI a1.fIndex), (.v (.str v12.1.fBase)), (dP ep51 v12.1.fArgs), (appD 6 (List.map ep54 y42.2.2.2.2))]) (hq_of (g := [(.cells [(.v (.str y42.2.1)), (dI y42.2.2.1), (dB y42.2.2.2.1)]), (b19_1 a1), b19_2, (.cells [(dI a1.fKind), (.v (.str v9)), (dI a1.fIndex), (.v (.str v12.1.fBase)), (dP ep51 v12.1.fArgs), (appD 6 (List.map ep54 y42.2.2.2.2))]), .dead, .dead, (appO 6 (List.map ep54 y42.2.2.2.2))]) (e0.trans (by kernel_rfl)) rfl) (by kernel_rfl) (all_sc rfl (all_sc rfl (all_sc rfl (all_sc rfl (all_sc rfl (all_sc (appF_sc _ _ _) rfl)))))) (by rfl))) ?_
     refine Ops.dn (seqQ.n (Wp.rt ?_))
     exact fnQP.r' (X19 n) (fun z => (e54 z)) c75 h (RetOkP.mk' (mkAgg [(dI a1.fKind), (.v (.str v9)), (dI a1.fIndex), (.v (.str v12.1.fBase)), (dP ep51 v12.1.fArgs), (appD 6 (List.map ep54 y42.2.2.2.2))]) (by kernel_rfl) (by kernel_rfl) (by kernel_rfl) (mkAgg_frz (.cons (dI a1.fKind) _ (by kernel_rfl) (by kernel_rfl) (.cons (.v (.str v9)) _ (by kernel_rfl) (by kernel_rfl) (.cons (dI a1.fIndex) _ (by kernel_rfl) (by kernel_rfl) (.cons (.v (.str v12.1.fBase)) _ (by kernel_rfl) (by kernel_rfl) (.cons (dP ep51 v12.1.fArgs) _ (by kernel_rfl) (by kernel_rfl) (.cons (appD 6 (List.map ep54 y42.2.2.2.2)) _ (appD_frz _ _ _ _) (appF_na _ _ _) .nil))))))))
  refine Wp.cd h [0, 2, 4, 6, 7] 4 (fun h => ?_) (fun h => ?_)
  ·refine Wp.rg (Ops.sg 6 6 (Ops.dn (sqQ.m ⟨Zs23 a2 (q1 ((.ptr 1 0)::q1 ((.ptr 2 0)::(.ptr 3 0)::q40 (q16 [])))), [(b19_0 a0), (b19_1 a1), b19_2, (.cells [(dI a1.fKind), (.v (.str a0.fBase)), (dI a1.fIndex), (.v (.str ByteArray.empty)), (.v (.sl .nil (List.map ep51 []))), (.v (.sl .nil (List.map ep54 [])))]), .dead]⟩ ?_)))
   exact J19j10 a0.fBase  h
  ·refine Wp.sk (sqQ.m ⟨Zs23 a2 (q1 ((.ptr 1 0)::q1 ((.ptr 2 0)::(.ptr 3 0)::q40 (q16 [])))), [(b19_0 a0), (b19_1 a1), b19_2, (b19_3 a1), .dead]⟩ ?_)
   exact J19j10 a1.fName  h
 refine Ops.hv (fun KQ => ∀ v1 : Bool, f19_r3 m K a0 a1 a2 (v1 && (a1.fName.toList == (⟨#[42]⟩ : ByteArray).toList)) = some o → KQ 4 ⟨Zs28 (.v (.agg [(vI a1.fKind), (.str a1.fName), (vI a1.fIndex), (.str a1.fType.fBase), (vP ep51 a1.fType.fArgs), (vP ep54 a1.fArgs)])) a2 a1.fKind a1.fName a1.fIndex (.v (.agg [(vI a1.fKind), (.str a1.fName), (vI a1.fIndex), (.str ByteArray.empty), (.sl .nil (List.map ep51 [])), (.sl .nil (List.map ep54 []))])) v1 (u40 (u3 [])), [(b19_0 a0), (b19_1 a1), b19_2, (b19_3 a1)]⟩) ?_ fun G19g2 => Ops.sx (G19g2 (a1.fKind == 1) h)
 intro v1 h
 cases v1
 ·refine Ops.sg 4 8 ?_
  exact Ops.sx (J19j8 U U U false false h)
 ·refine Ops.sg 4 8 ?_
  exact Ops.sx (J19j8 (.ptr 1 1) (.v (.str a1.fName)) (dB (a1.fName.toList == (⟨#[42]⟩ : ByteArray).toList)) true (a1.fName.toList == (⟨#[42]⟩ : ByteArray).toList) h)
noncomputable def K19 (m : Nat) : Nat → Rec19
 | 0 => ⟨fun _ _ _ => none⟩
 | r + 1 => ⟨fun a0 a1 a2 => b19 m (K19 m r) a0 a1 a2⟩
theorem okK19 (m : Nat) : ∀ r, OkRec19 m (K19 m r) (2 * m + 3 + r)
 | 0 => ⟨fun _ _ _ o h => (by cases h)⟩
 | r + 1 => ⟨fun a0 a1 a2 o h n hn => okb19 m (K19 m r) (2 * m + 3 + r) (okK19 m r) a0 a1 a2 o h n (by omega) (by omega)⟩
noncomputable def f19 (m : Nat) (a0 : S75) (a1 : S54) (a2 : Int) : Option (S54 × S75) := (K19 m m).r19 a0 a1 a2
theorem ok19 (m : Nat) (a0 : S75) (a1 : S54) (a2 : Int) (o : (S54 × S75)) (h : f19 m a0 a1 a2 = some o) (n : Nat) (hn : 3 * m + 3 ≤ n) : FnP Proofs.Tryz.prog E n 19 (c75 a0) [.v (e54 a1), .v (eI a2)] (e54 o.1) (c75 o.2) := (okK19 m m).ok19 a0 a1 a2 o h n (by omega)
noncomputable def f15_B1 (m : Nat) (a0 : S56) (v6 : Int) : Option (Stp Int (Int)) :=
 cnd (decide (v6 < (a0.fTags.length : Int)))
 (bnd (idx a0.fTags v6) fun v16 =>
 bnd (f33 m v16) fun v17 =>
 cnd (!v17)
 (some (.ret 10))
 (some (.nxt (w64 (v6 + 1)))))
 (some (.brk v6))
noncomputable def f15_B2 (m : Nat) (a0 : S56) (v24 : Int) : Option (Stp Int (Int)) :=
 cnd (decide (v24 < (a0.fGraph.fNodes.length : Int)))
 (bnd (idx a0.fGraph.fNodes v24) fun v34 =>
 cnd (decide ((v34.fLinks.length : Int) > 40))
 (some (.ret 2))
 (some (.nxt (w64 (v24 + 1)))))
 (some (.brk v24))
noncomputable def f15 (m : Nat) (a0 : S56) : Option Int :=
 cnd (decide ((a0.fTags.length : Int) > 4))
 (some 2)
 (brk (iter (fun (y : Int) => f15_B1 m a0 y) m 0) some fun y19 =>
 cnd (decide ((a0.fGraph.fNodes.length : Int) > 60))
 (some 2)
 (brk (iter (fun (y : Int) => f15_B2 m a0 y) m 0) some fun y36 =>
 bnd (f19 m ((⟨ByteArray.empty, 0, false⟩ : S75)) a0.fMeaning 1) fun v38 =>
 cnd v38.2.fOver
 (some 2)
 (some 0)))
noncomputable abbrev X15 (n : Nat) : Cx := cxOf Proofs.Tryz.prog E 15 n
noncomputable def C15 : Code := bodyOf Proofs.Tryz.prog 15
noncomputable abbrev b15_0 (w0 : S56) : AObj := .cells [(dP eS w0.fTags), (dP e61 w0.fGraph.fNodes), (dI w0.fMeaning.fKind), (.v (.str w0.fMeaning.fName)), (dI w0.fMeaning.fIndex), (.v (.str w0.fMeaning.fType.fBase)), (dP ep51 w0.fMeaning.fType.fArgs), (dP ep54 w0.fMeaning.fArgs)]
theorem ok15 (m : Nat) (a0 : S56) (o : Int) (h : f15 m a0 = some o) (n : Nat) (hn : 3 * m + 4 ≤ n) : Fn Proofs.Tryz.prog E n 15 [.v (e56 a0)] (eI o) := by
 obtain ⟨n, rfl⟩ : ∃ q, n = q + 1 := ⟨n - 1, by omega⟩
 unfold f15 at h
 refine Fn.of (by kernel_rfl) (by kernel_rfl) (by kernel_rfl) ⟨(.v (.agg [(vP eS a0.fTags), (vP e61 a0.fGraph.fNodes), (vI a0.fMeaning.fKind), (.str a0.fMeaning.fName), (vI a0.fMeaning.fIndex), (.str a0.fMeaning.fType.fBase), (vP ep51 a0.fMeaning.fType.fArgs), (vP ep54 a0.fMeaning.fArgs)]))::u40 (u10 []), []⟩ (by kernel_rfl) (Wp.sq (Wp.rg (Ops.sg 2 2 (Ops.dn (seqQ.n (Wp.sq (Wp.sq (Wp.rg (Ops.sg 2 2 ?_)))))))))
 refine Ops.on 3 (fun h0 e0 => (len_r (T := T) h0 22 9 .plain eS a0.fTags (by kernel_rfl))) ?_
 refine Ops.sg 1 4 (Ops.dn (seqQ.n ?_))
 refine Wp.cd h [1, 2] 1 (fun h => ?_) (fun h => ?_)
 ·refine Wp.sq (Wp.rg (Ops.sg 1 1 (Ops.dn (seqQ.n (Wp.rt (sqQ.r (seqQ.r ?_)))))))
  exact fnQ.r' (X15 n) (fun z => (eI z)) h (RetOk.mk' (dI 2) (by kernel_rfl) (by kernel_rfl))
 ·refine Wp.sk (sqQ.n' (seqQ.n (Wp.sq (Wp.sq (Wp.rg (Ops.sg 2 2 ?_))))))
  refine Ops.on 3 (fun h0 e0 => (len_r (T := T) h0 22 9 .plain eS a0.fTags (by kernel_rfl))) ?_
  refine Ops.sg 1 4 (Ops.dn (seqQ.n (Wp.bk 0 [1, 2] 1 ?_)))
  have hLx18 : ∀ (kx8 : Nat) (v6 : Int)  (ox7 : Int ⊕ (Int)), iter (fun (y : Int) => f15_B1 m a0 y) kx8 v6 = some ox7 → ∀ nx9, kx8 ≤ nx9 → (∀ r, ox7 = .inl r → ∀ σ, RetOk (X15 n) (resOf Proofs.Tryz.prog 15) (eI r) σ → (seqQ (X15 n) (cR (cR (cR C15))) (fnQ (X15 n).E.T (resOf Proofs.Tryz.prog 15) (eI o))) .ret σ) → (∀ (y : Int) , ox7 = .inr y → (seqQ (X15 n) (cR (cR (cR C15))) (fnQ (X15 n).E.T (resOf Proofs.Tryz.prog 15) (eI o))) .normal ⟨Zs24 (q10 ((dP eS a0.fTags)::(dI (a0.fTags.length : Int))::(dI y)::q35 [])), [(b15_0 a0)]⟩) → Lp (X15 n) [1, 2, 13, 14, 15] 1 (cL (cL (cR (cL (cR (cR C15)))))) nx9 ⟨Zs24 (q10 ((dP eS a0.fTags)::(dI (a0.fTags.length : Int))::(dI v6)::q35 [])), [(b15_0 a0)]⟩ (blkQ (X15 n) 0 [1, 2] 1 (seqQ (X15 n) (cR (cR (cR C15))) (fnQ (X15 n).E.T (resOf Proofs.Tryz.prog 15) (eI o)))) := by
   intro kx8
   induction kx8 with
   | zero => intro v6  ox7 h; exact (iter_zero h).elim
   | succ kx8 ihx10 =>
    intro v6  ox7 h nx9 hnx13 hrx11 hxx12
    obtain ⟨nx9, rfl⟩ : ∃ q, nx9 = q + 1 := ⟨nx9 - 1, by omega⟩
    obtain ⟨sx14, h, hsx15⟩ := iter_some h
    have h : f15_B1 m a0 v6 = some sx14 := h
    unfold f15_B1 at h
    refine Lp.succ (Wp.sq (Wp.rg (Ops.sg 1 1 (Ops.dn (seqQ.n (Wp.sq ?_))))))
    refine Wp.cd h [1, 2, 13, 14, 15] 1 (fun h => ?_) (fun h => ?_)
    ·refine Wp.sk (sqQ.n' (seqQ.n (Wp.sq (Wp.bk 1 [1, 2, 13, 14, 15] 1 (Wp.sq (Wp.rg ?_))))))
     obtain ⟨v16, ev16, h⟩ := bnd_some h
     refine Ops.on 1 (fun h0 e0 => (ix_r (T := T) h0 22 9 1 .plain eS a0.fTags v6 v16 ev16 (by kernel_rfl) (by kernel_rfl) (fun _ => rfl))) ?_
     refine Ops.sg 2 3 (Ops.dn (seqQ.n (Wp.sq (Wp.rg (Ops.sg 1 1 ?_)))))
     obtain ⟨v17, ev17, h⟩ := bnd_some h
     refine Ops.on 2 (fun h0 e0 => (call_ok (E' := E) (h := h0) (by kernel_rfl) (Args.v (.str v16) (eS v16) (by kernel_rfl) Args.nil) (ok33 m v16 v17 ev17 n (by omega)))) ?_
     refine Ops.sg 1 3 (Ops.dn (seqQ.n ?_))
     refine Wp.cd h [1, 2, 13, 14, 15] 1 (fun h => ?_) (fun h => ?_)
     ·refine Wp.sq (Wp.rg (Ops.sg 1 1 (Ops.dn (seqQ.n (Wp.rt (sqQ.r (blkQ.r (seqQ.r ?_))))))))
      cases h
      refine lpQ.r (blkQ.r ?_)
      exact hrx11 _ hsx15 _ (RetOk.forget [1, 2, 13, 14, 15] (by kernel_rfl) (RetOk.mk' (dI 10) (by kernel_rfl) (by kernel_rfl)))
     ·refine Wp.sk (sqQ.n' (blkQ.n' (seqQ.n (Wp.rg (Ops.sg 2 2 (Ops.dn (lpQ.m ⟨Zs24 (q10 ((dP eS a0.fTags)::(dI (a0.fTags.length : Int))::(dI (w64 (v6 + 1)))::q35 [])), [(b15_0 a0)]⟩ ?_)))))))
      cases h
      exact ihx10 (w64 (v6 + 1))  _ hsx15 _ (by omega) hrx11 hxx12
    ·refine Wp.ex 0 (sqQ.x (seqQ.x ?_))
     cases h
     refine lpQ.x (blkQ.w ⟨Zs24 (q10 ((dP eS a0.fTags)::(dI (a0.fTags.length : Int))::(dI v6)::q35 [])), [(b15_0 a0)]⟩ ?_)
     exact hxx12 v6  hsx15
  refine Wp.loop' [1, 2, 13, 14, 15] 1 (by kernel_rfl) ⟨Zs24 (q10 ((dP eS a0.fTags)::(dI (a0.fTags.length : Int))::(dI 0)::q35 [])), [(b15_0 a0)]⟩ (by kernel_rfl) ?_
  rcases brk_some h with ⟨r20, er20, h⟩ | ⟨y19, ey19, h⟩
  ·refine hLx18 _ 0  _ er20 n (by omega) (fun r er σ hσ => ?_) (fun y  ey => by cases ey)
   cases er
   refine seqQ.r ?_
   exact fnQ.r' (X15 n) (fun z => (eI z)) h hσ
  ·refine hLx18 _ 0  _ ey19 n (by omega) (fun r er => by cases er) (fun y  ey => ?_)
   cases ey
   refine seqQ.n (Wp.sq (Wp.sq (Wp.rg (Ops.sg 3 3 ?_))))
   refine Ops.on 4 (fun h0 e0 => (len_r (T := T) h0 47 62 .plain e61 a0.fGraph.fNodes (by kernel_rfl))) ?_
   refine Ops.sg 1 5 (Ops.dn (seqQ.n ?_))
   refine Wp.cd h [1, 2] 1 (fun h => ?_) (fun h => ?_)
   ·refine Wp.sq (Wp.rg (Ops.sg 1 1 (Ops.dn (seqQ.n (Wp.rt (sqQ.r (seqQ.r ?_)))))))
    exact fnQ.r' (X15 n) (fun z => (eI z)) h (RetOk.mk' (dI 2) (by kernel_rfl) (by kernel_rfl))
   ·refine Wp.sk (sqQ.n' (seqQ.n (Wp.sq (Wp.sq (Wp.rg (Ops.sg 3 3 ?_))))))
    refine Ops.on 4 (fun h0 e0 => (len_r (T := T) h0 47 62 .plain e61 a0.fGraph.fNodes (by kernel_rfl))) ?_
    refine Ops.sg 1 5 (Ops.dn (seqQ.n (Wp.bk 2 [1, 2] 1 ?_)))
    have hLx35 : ∀ (kx26 : Nat) (v24 : Int)  (ox25 : Int ⊕ (Int)), iter (fun (y : Int) => f15_B2 m a0 y) kx26 v24 = some ox25 → ∀ nx27, kx26 ≤ nx27 → (∀ r, ox25 = .inl r → ∀ σ, RetOk (X15 n) (resOf Proofs.Tryz.prog 15) (eI r) σ → (seqQ (X15 n) (cR (cR (cR (cR (cR C15))))) (fnQ (X15 n).E.T (resOf Proofs.Tryz.prog 15) (eI o))) .ret σ) → (∀ (y : Int) , ox25 = .inr y → (seqQ (X15 n) (cR (cR (cR (cR (cR C15))))) (fnQ (X15 n).E.T (resOf Proofs.Tryz.prog 15) (eI o))) .normal ⟨Zs24 (q27 ((dP e61 a0.fGraph.fNodes)::(dI (a0.fGraph.fNodes.length : Int))::(dI y)::q18 [])), [(b15_0 a0)]⟩) → Lp (X15 n) [1, 2, 30, 31, 32] 1 (cL (cL (cR (cL (cR (cR (cR (cR C15)))))))) nx27 ⟨Zs24 (q27 ((dP e61 a0.fGraph.fNodes)::(dI (a0.fGraph.fNodes.length : Int))::(dI v24)::q18 [])), [(b15_0 a0)]⟩ (blkQ (X15 n) 2 [1, 2] 1 (seqQ (X15 n) (cR (cR (cR (cR (cR C15))))) (fnQ (X15 n).E.T (resOf Proofs.Tryz.prog 15) (eI o)))) := by
     intro kx26
     induction kx26 with
     | zero => intro v24  ox25 h; exact (iter_zero h).elim
     | succ kx26 ihx28 =>
      intro v24  ox25 h nx27 hnx31 hrx29 hxx30
      obtain ⟨nx27, rfl⟩ : ∃ q, nx27 = q + 1 := ⟨nx27 - 1, by omega⟩
      obtain ⟨sx32, h, hsx33⟩ := iter_some h
      have h : f15_B2 m a0 v24 = some sx32 := h
      unfold f15_B2 at h
      refine Lp.succ (Wp.sq (Wp.rg (Ops.sg 1 1 (Ops.dn (seqQ.n (Wp.sq ?_))))))
      refine Wp.cd h [1, 2, 30, 31, 32] 1 (fun h => ?_) (fun h => ?_)
      ·refine Wp.sk (sqQ.n' (seqQ.n (Wp.sq (Wp.bk 3 [1, 2, 30, 31, 32] 1 (Wp.sq (Wp.rg ?_))))))
       obtain ⟨v34, ev34, h⟩ := bnd_some h
       refine Ops.on 1 (fun h0 e0 => (ix_r (T := T) h0 47 62 2 .plain e61 a0.fGraph.fNodes v24 v34 ev34 (by kernel_rfl) (by kernel_rfl) (fun _ => rfl))) ?_
       refine Ops.sg 3 4 (Ops.dn (seqQ.n (Wp.sq (Wp.rg (Ops.sg 2 2 ?_)))))
       refine Ops.on 3 (fun h0 e0 => (len_r (T := T) h0 60 117 .plain e116 v34.fLinks (by kernel_rfl))) ?_
       refine Ops.sg 1 4 (Ops.dn (seqQ.n ?_))
       refine Wp.cd h [1, 2, 30, 31, 32] 2 (fun h => ?_) (fun h => ?_)
       ·refine Wp.sq (Wp.rg (Ops.sg 1 1 (Ops.dn (seqQ.n (Wp.rt (sqQ.r (blkQ.r (seqQ.r ?_))))))))
        cases h
        refine lpQ.r (blkQ.r ?_)
        exact hrx29 _ hsx33 _ (RetOk.forget [1, 2, 30, 31, 32] (by kernel_rfl) (RetOk.mk' (dI 2) (by kernel_rfl) (by kernel_rfl)))
       ·refine Wp.sk (sqQ.n' (blkQ.n' (seqQ.n (Wp.rg (Ops.sg 2 2 (Ops.dn (lpQ.m ⟨Zs24 (q27 ((dP e61 a0.fGraph.fNodes)::(dI (a0.fGraph.fNodes.length : Int))::(dI (w64 (v24 + 1)))::q18 [])), [(b15_0 a0)]⟩ ?_)))))))
        cases h
        exact ihx28 (w64 (v24 + 1))  _ hsx33 _ (by omega) hrx29 hxx30
      ·refine Wp.ex 2 (sqQ.x (seqQ.x ?_))
       cases h
       refine lpQ.x (blkQ.w ⟨Zs24 (q27 ((dP e61 a0.fGraph.fNodes)::(dI (a0.fGraph.fNodes.length : Int))::(dI v24)::q18 [])), [(b15_0 a0)]⟩ ?_)
       exact hxx30 v24  hsx33
    refine Wp.loop' [1, 2, 30, 31, 32] 1 (by kernel_rfl) ⟨Zs24 (q27 ((dP e61 a0.fGraph.fNodes)::(dI (a0.fGraph.fNodes.length : Int))::(dI 0)::q18 [])), [(b15_0 a0)]⟩ (by kernel_rfl) ?_
    rcases brk_some h with ⟨r37, er37, h⟩ | ⟨y36, ey36, h⟩
    ·refine hLx35 _ 0  _ er37 n (by omega) (fun r er σ hσ => ?_) (fun y  ey => by cases ey)
     cases er
     refine seqQ.r ?_
     exact fnQ.r' (X15 n) (fun z => (eI z)) h hσ
    ·refine hLx35 _ 0  _ ey36 n (by omega) (fun r er => by cases er) (fun y  ey => ?_)
     cases ey
     refine seqQ.n (Wp.sq (Wp.rg (Ops.sg 3 3 (Ops.dn (seqQ.n (Wp.sq (Wp.rg (Ops.sg 3 3 ?_))))))))
     obtain ⟨v38, ev38, h⟩ := bnd_some h
     refine Ops.on 4 (fun h0 e0 => (call_ptr (E' := E) (h := h0) (q := 1) (cs := c75 ((⟨ByteArray.empty, 0, false⟩ : S75))) (by kernel_rfl) (by kernel_rfl) (by kernel_rfl) (hq_of e0 (by kernel_rfl)) (by kernel_rfl) (Args.v (.agg [(vI a0.fMeaning.fKind), (.str a0.fMeaning.fName), (vI a0.fMeaning.fIndex), (.str a0.fMeaning.fType.fBase), (vP ep51 a0.fMeaning.fType.fArgs), (vP ep54 a0.fMeaning.fArgs)]) (e54 a0.fMeaning) (by kernel_rfl) (Args.v (vI 1) (eI 1) (by kernel_rfl) Args.nil)) (ok19 m ((⟨ByteArray.empty, 0, false⟩ : S75)) a0.fMeaning 1 v38 ev38 n (by omega)))) ?_
     refine Ops.dn (seqQ.n (Wp.sq (Wp.sq (Wp.rg (Ops.sg 4 4 (Ops.dn (seqQ.n ?_)))))))
     refine Wp.cd h [2] 2 (fun h => ?_) (fun h => ?_)
     ·refine Wp.sq (Wp.rg (Ops.sg 1 1 (Ops.dn (seqQ.n (Wp.rt (sqQ.r (seqQ.r ?_)))))))
      exact fnQ.r' (X15 n) (fun z => (eI z)) h (RetOk.mk' (dI 2) (by kernel_rfl) (by kernel_rfl))
     ·refine Wp.sk (sqQ.n' (seqQ.n (Wp.sq (Wp.rg (Ops.sg 1 1 (Ops.dn (seqQ.n (Wp.rt ?_))))))))
      exact fnQ.r' (X15 n) (fun z => (eI z)) h (RetOk.mk' (dI 0) (by kernel_rfl) (by kernel_rfl))
noncomputable def f34_B1 (m : Nat) (a0 : (List Int)) (v7 : Int) (v8 : (List S134)) : Option (Stp S32 (Int × (List S134))) :=
 cnd (decide (v7 < (a0.length : Int)))
 (bnd (idx a0 v7) fun v18 =>
 bnd (app 40 v8 ([(⟨v7, w64 (v7 + 1), v18, v18, 0⟩ : S134)])) fun v19 =>
 some (.nxt (w64 (v7 + 1), v19)))
 (some (.brk (v7, v8)))
noncomputable def f34 (m : Nat) (a0 : (List Int)) : Option S32 :=
 brk (iter (fun (y : Int × (List S134)) => f34_B1 m a0 y.1 y.2) m (0, [])) some fun y21 =>
 some ((⟨w64 ((a0.length : Int) + 1), y21.2, [(⟨(a0.length : Int), 0⟩ : S136)]⟩ : S32))
noncomputable abbrev X34 (n : Nat) : Cx := cxOf Proofs.Tryz.prog E 34 n
noncomputable def C34 : Code := bodyOf Proofs.Tryz.prog 34
noncomputable abbrev b34_0 : AObj := .cells [(dI 0), (.v (.sl .nil (List.map e134 []))), (.v (.sl .nil (List.map e136 [])))]
theorem ok34 (m : Nat) (a0 : (List Int)) (o : S32) (h : f34 m a0 = some o) (n : Nat) (hn : m + 1 ≤ n) : Fn Proofs.Tryz.prog E n 34 [.v ((eL eI) a0)] (e32 o) := by
 obtain ⟨n, rfl⟩ : ∃ q, n = q + 1 := ⟨n - 1, by omega⟩
 unfold f34 at h
 refine Fn.of (by kernel_rfl) (by kernel_rfl) (by kernel_rfl) ⟨(dP eI a0)::u33 [], []⟩ (by kernel_rfl) (Wp.sq (Wp.rg (Ops.sg 1 1 (Ops.dn (seqQ.n (Wp.sq (Wp.rg (Ops.sg 1 1 ?_))))))))
 refine Ops.on 2 (fun h0 e0 => (len_r (T := T) h0 97 3 .plain eI a0 (by kernel_rfl))) ?_
 refine Ops.sg 2 4 ?_
 refine Ops.on 5 (fun h0 e0 => (len_r (T := T) h0 97 3 .plain eI a0 (by kernel_rfl))) ?_
 refine Ops.sg 5 10 (Ops.dn (seqQ.n (Wp.sq (Wp.sq (Wp.rg (Ops.sg 1 1 ?_))))))
 refine Ops.on 2 (fun h0 e0 => (len_r (T := T) h0 97 3 .plain eI a0 (by kernel_rfl))) ?_
 refine Ops.sg 1 3 (Ops.dn (seqQ.n (Wp.bk 0 [2, 3] 2 ?_)))
 have hLx20 : ∀ (kx10 : Nat) (v7 : Int) (v8 : (List S134))  (ox9 : S32 ⊕ (Int × (List S134))), iter (fun (y : Int × (List S134)) => f34_B1 m a0 y.1 y.2) kx10 (v7, v8) = some ox9 → ∀ nx11, kx10 ≤ nx11 → (∀ r, ox9 = .inl r → ∀ σ, RetOk (X34 n) (resOf Proofs.Tryz.prog 34) (e32 r) σ → (seqQ (X34 n) (cR (cR (cR C34))) (fnQ (X34 n).E.T (resOf Proofs.Tryz.prog 34) (e32 o))) .ret σ) → (∀ (y : Int × (List S134)) , ox9 = .inr y → (seqQ (X34 n) (cR (cR (cR C34))) (fnQ (X34 n).E.T (resOf Proofs.Tryz.prog 34) (e32 o))) .normal ⟨q2 ((.ptr 0 0)::(.ptr 1 0)::q30 []), [b34_0, (.cells [(dI (w64 ((a0.length : Int) + 1))), (appD 2 (List.map e134 y.2)), (.v (.sl .nonfull (List.map e136 ([(⟨(a0.length : Int), 0⟩ : S136)]))))]), (appO 5 (List.map e134 y.2))]⟩) → Lp (X34 n) [2, 3, 14, 15, 16] 2 (cL (cL (cR (cL (cR (cR C34)))))) nx11 ⟨Zs25 a0 (a0.length : Int) ((dI v7)::q17 []), [b34_0, (.cells [(dI (w64 ((a0.length : Int) + 1))), (appD 2 (List.map e134 v8)), (.v (.sl .nonfull (List.map e136 ([(⟨(a0.length : Int), 0⟩ : S136)]))))]), (appO 5 (List.map e134 v8))]⟩ (blkQ (X34 n) 0 [2, 3] 2 (seqQ (X34 n) (cR (cR (cR C34))) (fnQ (X34 n).E.T (resOf Proofs.Tryz.prog 34) (e32 o)))) := by
  intro kx10
  induction kx10 with
  | zero => intro v7 v8  ox9 h; exact (iter_zero h).elim
  | succ kx10 ihx12 =>
   intro v7 v8  ox9 h nx11 hnx15 hrx13 hxx14
   obtain ⟨nx11, rfl⟩ : ∃ q, nx11 = q + 1 := ⟨nx11 - 1, by omega⟩
   obtain ⟨sx16, h, hsx17⟩ := iter_some h
   have h : f34_B1 m a0 v7 v8 = some sx16 := h
   unfold f34_B1 at h
   refine Lp.succ (Wp.sq (Wp.rg (Ops.sg 1 1 (Ops.dn (seqQ.n (Wp.sq ?_))))))
   refine Wp.cd h [2, 3, 14, 15, 16] 3 (fun h => ?_) (fun h => ?_)
   ·refine Wp.sk (sqQ.n ⟨Zs25 a0 (a0.length : Int) ((dI v7)::q17 []), [b34_0, (.cells [(dI (w64 ((a0.length : Int) + 1))), (appD 3 (List.map e134 v8)), (.v (.sl .nonfull (List.map e136 ([(⟨(a0.length : Int), 0⟩ : S136)]))))]), .dead, (appO 5 (List.map e134 v8))]⟩ (by generalize v8 = z0; cases z0 <;> kernel_rfl) (seqQ.n (Wp.sq (Wp.bk 1 [2, 3, 14, 15, 16] 4 (Wp.sq (Wp.rg (Ops.sg 1 1 ?_)))))))
    obtain ⟨v18, ev18, h⟩ := bnd_some h
    refine Ops.on 2 (fun h0 e0 => (ix_r (T := T) h0 97 3 1 .plain eI a0 v7 v18 ev18 (by kernel_rfl) (by kernel_rfl) (fun _ => rfl))) ?_
    refine Ops.sg 3 5 (Ops.dn (seqQ.n (Wp.rg (Ops.sg 9 9 ?_))))
    obtain ⟨v19, ev19, h⟩ := bnd_some h
    refine Ops.on 10 (fun h0 e0 => (app_r (T := T) (g := .nil) h0 30 135 3 5 ti135 .nonfull e134 v8 ([(⟨v7, w64 (v7 + 1), v18, v18, 0⟩ : S134)]) v19 ev19 (by kernel_rfl) (by kernel_rfl) (by kernel_rfl) (by kernel_rfl) (fun _ => rfl) (hq_of e0 (by kernel_rfl)))) ?_
    refine Ops.sg 1 11 ?_
    refine Ops.on 12 (fun h0 e0 => (st_l (i := ti30) (h := h0) (r := 1) (off := 1) (cs := [(dI (w64 ((a0.length : Int) + 1))), (appD 3 (List.map e134 v8)), (.v (.sl .nonfull (List.map e136 ([(⟨(a0.length : Int), 0⟩ : S136)]))))]) (cs' := [(dI (w64 ((a0.length : Int) + 1))), (appD 4 (List.map e134 v19)), (.v (.sl .nonfull (List.map e136 ([(⟨(a0.length : Int), 0⟩ : S136)]))))]) (x := (appD 4 (List.map e134 v19))) (hq_of (g := [b34_0, (.cells [(dI (w64 ((a0.length : Int) + 1))), (appD 3 (List.map e134 v8)), (.v (.sl .nonfull (List.map e136 ([(⟨(a0.length : Int), 0⟩ : S136)]))))]), .dead, .dead, (appO 5 (List.map e134 v19))]) (e0.trans (by kernel_rfl)) rfl) (by kernel_rfl) (appF_one _ _ _) (by rfl))) ?_
    refine Ops.dn (blkQ.n ⟨Zs25 a0 (a0.length : Int) ((dI v7)::q17 []), [b34_0, (.cells [(dI (w64 ((a0.length : Int) + 1))), (appD 4 (List.map e134 v19)), (.v (.sl .nonfull (List.map e136 ([(⟨(a0.length : Int), 0⟩ : S136)]))))]), .dead, .dead, (appO 5 (List.map e134 v19))]⟩ (by generalize v19 = z0; cases z0 <;> kernel_rfl) (seqQ.n (Wp.rg (Ops.sg 2 2 (Ops.dn (lpQ.n ⟨Zs25 a0 (a0.length : Int) ((dI (w64 (v7 + 1)))::q17 []), [b34_0, (.cells [(dI (w64 ((a0.length : Int) + 1))), (appD 2 (List.map e134 v19)), (.v (.sl .nonfull (List.map e136 ([(⟨(a0.length : Int), 0⟩ : S136)]))))]), (appO 5 (List.map e134 v19))]⟩ (by generalize v19 = z0; cases z0 <;> kernel_rfl) ?_))))))
    cases h
    exact ihx12 (w64 (v7 + 1)) v19  _ hsx17 _ (by omega) hrx13 hxx14
   ·refine Wp.ex 0 (sqQ.x (seqQ.x ?_))
    cases h
    refine lpQ.x (blkQ.x ⟨q2 ((.ptr 0 0)::(.ptr 1 0)::q30 []), [b34_0, (.cells [(dI (w64 ((a0.length : Int) + 1))), (appD 2 (List.map e134 v8)), (.v (.sl .nonfull (List.map e136 ([(⟨(a0.length : Int), 0⟩ : S136)]))))]), (appO 5 (List.map e134 v8))]⟩ (by generalize v8 = z0; cases z0 <;> kernel_rfl) ?_)
    exact hxx14 (v7, v8)  hsx17
 refine Wp.loop' [2, 3, 14, 15, 16] 2 (by kernel_rfl) ⟨Zs25 a0 (a0.length : Int) ((dI 0)::q17 []), [b34_0, (.cells [(dI (w64 ((a0.length : Int) + 1))), (appD 2 (List.map e134 [])), (.v (.sl .nonfull (List.map e136 ([(⟨(a0.length : Int), 0⟩ : S136)]))))]), .dead]⟩ (by kernel_rfl) ?_
 rcases brk_some h with ⟨r22, er22, h⟩ | ⟨y21, ey21, h⟩
 ·refine hLx20 _ 0 []  _ er22 n (by omega) (fun r er σ hσ => ?_) (fun y  ey => by cases ey)
  cases er
  refine seqQ.r ?_
  exact fnQ.r' (X34 n) (fun z => (e32 z)) h hσ
 ·refine hLx20 _ 0 []  _ ey21 n (by omega) (fun r er => by cases er) (fun y  ey => ?_)
  cases ey
  refine seqQ.n (Wp.sq (Wp.rg (Ops.sg 1 1 ?_)))
  refine Ops.on 2 (fun h0 e0 => (st_s (i := ti33) (h := h0) (r := 0) (off := 0) (cs := [(dI 0), (.v (.sl .nil (List.map e134 []))), (.v (.sl .nil (List.map e136 [])))]) (cs' := [(dI (w64 ((a0.length : Int) + 1))), (appD 2 (List.map e134 y21.2)), (.v (.sl .nonfull (List.map e136 ([(⟨(a0.length : Int), 0⟩ : S136)]))))]) (ds := [(dI (w64 ((a0.length : Int) + 1))), (appD 2 (List.map e134 y21.2)), (.v (.sl .nonfull (List.map e136 ([(⟨(a0.length : Int), 0⟩ : S136)]))))]) (hq_of (g := [b34_0, (.cells [(dI (w64 ((a0.length : Int) + 1))), (appD 2 (List.map e134 y21.2)), (.v (.sl .nonfull (List.map e136 ([(⟨(a0.length : Int), 0⟩ : S136)]))))]), (appO 5 (List.map e134 y21.2))]) (e0.trans (by kernel_rfl)) rfl) (by kernel_rfl) (all_sc rfl (all_sc (appF_sc _ _ _) (all_sc rfl rfl))) (by rfl))) ?_
  refine Ops.dn (seqQ.n (Wp.rt ?_))
  exact fnQ.r' (X34 n) (fun z => (e32 z)) h (RetOk.mk' (mkAgg [(dI (w64 ((a0.length : Int) + 1))), (appD 2 (List.map e134 y21.2)), (.v (.sl .nonfull (List.map e136 ([(⟨(a0.length : Int), 0⟩ : S136)]))))]) (by kernel_rfl) (mkAgg_frz (.cons (dI (w64 ((a0.length : Int) + 1))) _ (by kernel_rfl) (by kernel_rfl) (.cons (appD 2 (List.map e134 y21.2)) _ (appD_frz _ _ _ _) (appF_na _ _ _) (.cons (.v (.sl .nonfull (List.map e136 ([(⟨(a0.length : Int), 0⟩ : S136)])))) _ (by kernel_rfl) (by kernel_rfl) .nil)))))
noncomputable def f99_r1 (m : Nat) (v7 : Bool) : Option Bool :=
 some v7
noncomputable def f99 (m : Nat) (a0 a1 a2 : Int) : Option Bool :=
 f99_r1 m ((decide (a0 ≥ a1)) && (decide (a0 ≤ a2)))
noncomputable abbrev X99 (n : Nat) : Cx := cxOf Proofs.Tryz.prog E 99 n
theorem ok99 (m : Nat) (a0 a1 a2 : Int) (o : Bool) (h : f99 m a0 a1 a2 = some o) (n : Nat) (hn : m + 1 ≤ n) : Fn Proofs.Tryz.prog E n 99 [.v (eI a0), .v (eI a1), .v (eI a2)] (eB o) := by
 obtain ⟨n, rfl⟩ : ∃ q, n = q + 1 := ⟨n - 1, by omega⟩
 unfold f99 at h
 refine Fn.of (by kernel_rfl) (by kernel_rfl) (by kernel_rfl) ⟨(dI a0)::(dI a1)::(dI a2)::u12 [], []⟩ (by kernel_rfl) (Wp.sq (Wp.rg (Ops.sg 1 1 (Ops.dn (seqQ.n (Wp.sq (Wp.rg (Ops.sg 4 4 ?_))))))))
 refine Ops.hv (fun KQ => ∀ (d3 d4 d5 : D) (v6 v7 : Bool), f99_r1 m v7 = some o → KQ 8 ⟨(dI a0)::(dI a1)::(dI a2)::u3 ((dB false)::(dI a0)::(dI a1)::(dB v6)::(dB v6)::d3::d4::d5::(dB v7)::[]), []⟩) ?_ fun J99j8 => ?_
 ·intro d3 d4 d5 v6 v7 h
  unfold f99_r1 at h
  refine Ops.sg 1 9 (Ops.dn (seqQ.n (Wp.rt ?_)))
  exact fnQ.r' (X99 n) (fun z => (eB z)) h (RetOk.mk' (dB v7) (by kernel_rfl) (by kernel_rfl))
 refine Ops.hv (fun KQ => ∀ v1 : Bool, f99_r1 m (v1 && (decide (a0 ≤ a2))) = some o → KQ 4 ⟨(dI a0)::(dI a1)::(dI a2)::u3 ((dB false)::(dI a0)::(dI a1)::(dB v1)::(dB v1)::u4 []), []⟩) ?_ fun G99g2 => Ops.sx (G99g2 (decide (a0 ≥ a1)) h)
 intro v1 h
 cases v1
 ·refine Ops.sg 4 8 ?_
  exact Ops.sx (J99j8 U U U false false h)
 ·refine Ops.sg 4 8 ?_
  exact Ops.sx (J99j8 (dI a0) (dI a2) (dB (decide (a0 ≤ a2))) true (decide (a0 ≤ a2)) h)
noncomputable def f100 (m : Nat) (a0 a1 : Int) : Option S26 :=
 some ((⟨a0, a1⟩ : S26))
noncomputable abbrev X100 (n : Nat) : Cx := cxOf Proofs.Tryz.prog E 100 n
theorem ok100 (m : Nat) (a0 a1 : Int) (o : S26) (h : f100 m a0 a1 = some o) (n : Nat) (hn : m + 1 ≤ n) : Fn Proofs.Tryz.prog E n 100 [.v (eI a0), .v (eI a1)] (e26 o) := by
 obtain ⟨n, rfl⟩ : ∃ q, n = q + 1 := ⟨n - 1, by omega⟩
 unfold f100 at h
 refine Fn.of (by kernel_rfl) (by kernel_rfl) (by kernel_rfl) ⟨(dI a0)::(dI a1)::u6 [], []⟩ (by kernel_rfl) (Wp.sq (Wp.rg (Ops.sg 1 1 (Ops.dn (seqQ.n (Wp.sq (Wp.rg (Ops.sg 4 4 (Ops.dn (seqQ.n (Wp.rt ?_)))))))))))
 exact fnQ.r' (X100 n) (fun z => (e26 z)) h (RetOk.mk' (.v (.agg [(vI a0), (vI a1)])) (by kernel_rfl) (by kernel_rfl))
noncomputable def f128 (m : Nat) (a0 : Int) : Option Bool :=
 some (a0 != a0)
noncomputable abbrev X128 (n : Nat) : Cx := cxOf Proofs.Tryz.prog E 128 n
theorem ok128 (m : Nat) (a0 : Int) (o : Bool) (h : f128 m a0 = some o) (n : Nat) (hn : m + 1 ≤ n) : Fn Proofs.Tryz.prog E n 128 [.v (eI a0)] (eB o) := by
 obtain ⟨n, rfl⟩ : ∃ q, n = q + 1 := ⟨n - 1, by omega⟩
 unfold f128 at h
 refine Fn.of (by kernel_rfl) (by kernel_rfl) (by kernel_rfl) ⟨(dI a0)::u5 [], []⟩ (by kernel_rfl) (Wp.sq (Wp.rg (Ops.sg 1 1 (Ops.dn (seqQ.n (Wp.sq (Wp.rg (Ops.sg 4 4 (Ops.dn (seqQ.n (Wp.rt ?_)))))))))))
 exact fnQ.r' (X128 n) (fun z => (eB z)) h (RetOk.mk' (dB (a0 != a0)) (by kernel_rfl) (by kernel_rfl))
noncomputable def f77 (m : Nat) (a0 a1 : Int) : Option Int :=
 bnd (f128 m a0) fun v1 =>
 bnd (f128 m a1) fun v2 =>
 cnd v1
 (cnd v2
 (some 0)
 (some (-1)))
 (cnd v2
 (some 1)
 (cnd (decide (a0 < a1))
 (some (-1))
 (cnd (decide (a0 > a1))
 (some 1)
 (some 0))))
noncomputable abbrev X77 (n : Nat) : Cx := cxOf Proofs.Tryz.prog E 77 n
theorem ok77 (m : Nat) (a0 a1 o : Int) (h : f77 m a0 a1 = some o) (n : Nat) (hn : m + 2 ≤ n) : Fn Proofs.Tryz.prog E n 77 [.v (eI a0), .v (eI a1)] (eI o) := by
 obtain ⟨n, rfl⟩ : ∃ q, n = q + 1 := ⟨n - 1, by omega⟩
 unfold f77 at h
 refine Fn.of (by kernel_rfl) (by kernel_rfl) (by kernel_rfl) ⟨(dI a0)::(dI a1)::u18 [], []⟩ (by kernel_rfl) (Wp.sq (Wp.rg (Ops.sg 1 1 (Ops.dn (seqQ.n (Wp.sq (Wp.rg (Ops.sg 1 1 ?_))))))))
 obtain ⟨v1, ev1, h⟩ := bnd_some h
 refine Ops.on 2 (fun h0 e0 => (call_ok (E' := E) (h := h0) (by kernel_rfl) (Args.v (vI a0) (eI a0) (by kernel_rfl) Args.nil) (ok128 m a0 v1 ev1 n (by omega)))) ?_
 refine Ops.sg 1 3 (Ops.dn (seqQ.n (Wp.sq (Wp.rg (Ops.sg 1 1 ?_)))))
 obtain ⟨v2, ev2, h⟩ := bnd_some h
 refine Ops.on 2 (fun h0 e0 => (call_ok (E' := E) (h := h0) (by kernel_rfl) (Args.v (vI a1) (eI a1) (by kernel_rfl) Args.nil) (ok128 m a1 v2 ev2 n (by omega)))) ?_
 refine Ops.sg 1 3 (Ops.dn (seqQ.n (Wp.sq (Wp.sq (Wp.rg (Ops.sg 1 1 (Ops.dn (seqQ.n ?_))))))))
 refine Wp.cd h [0, 1, 4, 6] 0 (fun h => ?_) (fun h => ?_)
 ·refine Wp.sq (Wp.sq (Wp.rg (Ops.sg 1 1 (Ops.dn (seqQ.n ?_)))))
  refine Wp.cd h [4] 0 (fun h => ?_) (fun h => ?_)
  ·refine Wp.sq (Wp.rg (Ops.sg 1 1 (Ops.dn (seqQ.n (Wp.rt (sqQ.r (seqQ.r (sqQ.r (seqQ.r ?_)))))))))
   exact fnQ.r' (X77 n) (fun z => (eI z)) h (RetOk.mk' (dI 0) (by kernel_rfl) (by kernel_rfl))
  ·refine Wp.sk (sqQ.n' (seqQ.n (Wp.sq (Wp.rg (Ops.sg 1 1 (Ops.dn (seqQ.n (Wp.rt (sqQ.r (seqQ.r ?_))))))))))
   exact fnQ.r' (X77 n) (fun z => (eI z)) h (RetOk.mk' (dI (-1)) (by kernel_rfl) (by kernel_rfl))
 ·refine Wp.sk (sqQ.n' (seqQ.n (Wp.sq (Wp.sq (Wp.rg (Ops.sg 1 1 (Ops.dn (seqQ.n ?_))))))))
  refine Wp.cd h [0, 1, 4] 0 (fun h => ?_) (fun h => ?_)
  ·refine Wp.sq (Wp.rg (Ops.sg 1 1 (Ops.dn (seqQ.n (Wp.rt (sqQ.r (seqQ.r ?_)))))))
   exact fnQ.r' (X77 n) (fun z => (eI z)) h (RetOk.mk' (dI 1) (by kernel_rfl) (by kernel_rfl))
  ·refine Wp.sk (sqQ.n' (seqQ.n (Wp.sq (Wp.sq (Wp.rg (Ops.sg 3 3 (Ops.dn (seqQ.n ?_))))))))
   refine Wp.cd h [0, 1, 4] 0 (fun h => ?_) (fun h => ?_)
   ·refine Wp.sq (Wp.rg (Ops.sg 1 1 (Ops.dn (seqQ.n (Wp.rt (sqQ.r (seqQ.r ?_)))))))
    exact fnQ.r' (X77 n) (fun z => (eI z)) h (RetOk.mk' (dI (-1)) (by kernel_rfl) (by kernel_rfl))
   ·refine Wp.sk (sqQ.n' (seqQ.n (Wp.sq (Wp.sq (Wp.rg (Ops.sg 3 3 (Ops.dn (seqQ.n ?_))))))))
    refine Wp.cd h [4] 0 (fun h => ?_) (fun h => ?_)
    ·refine Wp.sq (Wp.rg (Ops.sg 1 1 (Ops.dn (seqQ.n (Wp.rt (sqQ.r (seqQ.r ?_)))))))
     exact fnQ.r' (X77 n) (fun z => (eI z)) h (RetOk.mk' (dI 1) (by kernel_rfl) (by kernel_rfl))
    ·refine Wp.sk (sqQ.n' (seqQ.n (Wp.sq (Wp.rg (Ops.sg 1 1 (Ops.dn (seqQ.n (Wp.rt ?_))))))))
     exact fnQ.r' (X77 n) (fun z => (eI z)) h (RetOk.mk' (dI 0) (by kernel_rfl) (by kernel_rfl))
noncomputable def f76_B1 (m : Nat) (a0 : (List Int)) (v4 : Int) : Option (Stp Int (Int)) :=
 cnd (decide (v4 < (a0.length : Int)))
 (bnd (idx a0 v4) fun v14 =>
 cnd (v14 != 0)
 (some (.ret v14))
 (some (.nxt (w64 (v4 + 1)))))
 (some (.brk v4))
noncomputable def f76 (m : Nat) (a0 : (List Int)) : Option Int :=
 brk (iter (fun (y : Int) => f76_B1 m a0 y) m 0) some fun y16 =>
 some 0
noncomputable abbrev X76 (n : Nat) : Cx := cxOf Proofs.Tryz.prog E 76 n
noncomputable def C76 : Code := bodyOf Proofs.Tryz.prog 76
theorem ok76 (m : Nat) (a0 : (List Int)) (o : Int) (h : f76 m a0 = some o) (n : Nat) (hn : m + 1 ≤ n) : Fn Proofs.Tryz.prog E n 76 [.v ((eL eI) a0)] (eI o) := by
 obtain ⟨n, rfl⟩ : ∃ q, n = q + 1 := ⟨n - 1, by omega⟩
 unfold f76 at h
 refine Fn.of (by kernel_rfl) (by kernel_rfl) (by kernel_rfl) ⟨(dP eI a0)::u17 [], []⟩ (by kernel_rfl) (Wp.sq (Wp.rg (Ops.sg 1 1 (Ops.dn (seqQ.n (Wp.sq (Wp.rg (Ops.sg 1 1 (Ops.dn (seqQ.n (Wp.sq (Wp.sq (Wp.rg (Ops.sg 1 1 ?_))))))))))))))
 refine Ops.on 2 (fun h0 e0 => (len_r (T := T) h0 97 3 .plain eI a0 (by kernel_rfl))) ?_
 refine Ops.sg 1 3 (Ops.dn (seqQ.n (Wp.bk 0 [2, 3] 0 ?_)))
 have hLx15 : ∀ (kx6 : Nat) (v4 : Int)  (ox5 : Int ⊕ (Int)), iter (fun (y : Int) => f76_B1 m a0 y) kx6 v4 = some ox5 → ∀ nx7, kx6 ≤ nx7 → (∀ r, ox5 = .inl r → ∀ σ, RetOk (X76 n) (resOf Proofs.Tryz.prog 76) (eI r) σ → (seqQ (X76 n) (cR (cR (cR C76))) (fnQ (X76 n).E.T (resOf Proofs.Tryz.prog 76) (eI o))) .ret σ) → (∀ (y : Int) , ox5 = .inr y → (seqQ (X76 n) (cR (cR (cR C76))) (fnQ (X76 n).E.T (resOf Proofs.Tryz.prog 76) (eI o))) .normal ⟨Zs29 a0 (a0.length : Int) ((dI y)::q9 []), []⟩) → Lp (X76 n) [2, 3, 6, 7, 8] 0 (cL (cL (cR (cL (cR (cR C76)))))) nx7 ⟨Zs29 a0 (a0.length : Int) ((dI v4)::q9 []), []⟩ (blkQ (X76 n) 0 [2, 3] 0 (seqQ (X76 n) (cR (cR (cR C76))) (fnQ (X76 n).E.T (resOf Proofs.Tryz.prog 76) (eI o)))) := by
  intro kx6
  induction kx6 with
  | zero => intro v4  ox5 h; exact (iter_zero h).elim
  | succ kx6 ihx8 =>
   intro v4  ox5 h nx7 hnx11 hrx9 hxx10
   obtain ⟨nx7, rfl⟩ : ∃ q, nx7 = q + 1 := ⟨nx7 - 1, by omega⟩
   obtain ⟨sx12, h, hsx13⟩ := iter_some h
   have h : f76_B1 m a0 v4 = some sx12 := h
   unfold f76_B1 at h
   refine Lp.succ (Wp.sq (Wp.rg (Ops.sg 1 1 (Ops.dn (seqQ.n (Wp.sq ?_))))))
   refine Wp.cd h [2, 3, 6, 7, 8] 0 (fun h => ?_) (fun h => ?_)
   ·refine Wp.sk (sqQ.n' (seqQ.n (Wp.sq (Wp.bk 1 [2, 3, 6, 7, 8] 0 (Wp.sq (Wp.rg ?_))))))
    obtain ⟨v14, ev14, h⟩ := bnd_some h
    refine Ops.on 1 (fun h0 e0 => (ix_r (T := T) h0 97 3 1 .plain eI a0 v4 v14 ev14 (by kernel_rfl) (by kernel_rfl) (fun _ => rfl))) ?_
    refine Ops.sg 2 3 (Ops.dn (seqQ.n (Wp.sq (Wp.rg (Ops.sg 3 3 (Ops.dn (seqQ.n ?_)))))))
    refine Wp.cd h [2, 3, 6, 7, 8] 0 (fun h => ?_) (fun h => ?_)
    ·refine Wp.sq (Wp.rg (Ops.sg 2 2 (Ops.dn (seqQ.n (Wp.rt (sqQ.r (blkQ.r (seqQ.r ?_))))))))
     cases h
     refine lpQ.r (blkQ.r ?_)
     exact hrx9 _ hsx13 _ (RetOk.forget [2, 3, 6, 7, 8] (by kernel_rfl) (RetOk.mk' (dI v14) (by kernel_rfl) (by kernel_rfl)))
    ·refine Wp.sk (sqQ.n' (blkQ.n' (seqQ.n (Wp.rg (Ops.sg 2 2 (Ops.dn (lpQ.m ⟨Zs29 a0 (a0.length : Int) ((dI (w64 (v4 + 1)))::q9 []), []⟩ ?_)))))))
     cases h
     exact ihx8 (w64 (v4 + 1))  _ hsx13 _ (by omega) hrx9 hxx10
   ·refine Wp.ex 0 (sqQ.x (seqQ.x ?_))
    cases h
    refine lpQ.x (blkQ.w ⟨Zs29 a0 (a0.length : Int) ((dI v4)::q9 []), []⟩ ?_)
    exact hxx10 v4  hsx13
 refine Wp.loop' [2, 3, 6, 7, 8] 0 (by kernel_rfl) ⟨Zs29 a0 (a0.length : Int) ((dI 0)::q9 []), []⟩ (by kernel_rfl) ?_
 rcases brk_some h with ⟨r17, er17, h⟩ | ⟨y16, ey16, h⟩
 ·refine hLx15 _ 0  _ er17 n (by omega) (fun r er σ hσ => ?_) (fun y  ey => by cases ey)
  cases er
  refine seqQ.r ?_
  exact fnQ.r' (X76 n) (fun z => (eI z)) h hσ
 ·refine hLx15 _ 0  _ ey16 n (by omega) (fun r er => by cases er) (fun y  ey => ?_)
  cases ey
  refine seqQ.n (Wp.sq (Wp.rg (Ops.sg 2 2 (Ops.dn (seqQ.n (Wp.rt ?_))))))
  exact fnQ.r' (X76 n) (fun z => (eI z)) h (RetOk.mk' (dI 0) (by kernel_rfl) (by kernel_rfl))
noncomputable def f59 (m : Nat) (a0 a1 : S134) : Option Int :=
 bnd (f77 m a0.fFrom a1.fFrom) fun v1 =>
 bnd (f77 m a0.fIn a1.fIn) fun v2 =>
 bnd (f77 m a0.fOut a1.fOut) fun v3 =>
 bnd (f77 m a0.fTo a1.fTo) fun v4 =>
 bnd (f77 m a0.fWeight a1.fWeight) fun v5 =>
 bnd (f76 m ([v1, v2, v3, v4, v5])) fun v6 =>
 some v6
noncomputable abbrev X59 (n : Nat) : Cx := cxOf Proofs.Tryz.prog E 59 n
theorem ok59 (m : Nat) (a0 a1 : S134) (o : Int) (h : f59 m a0 a1 = some o) (n : Nat) (hn : m + 3 ≤ n) : Fn Proofs.Tryz.prog E n 59 [.v (e134 a0), .v (e134 a1)] (eI o) := by
 obtain ⟨n, rfl⟩ : ∃ q, n = q + 1 := ⟨n - 1, by omega⟩
 unfold f59 at h
 refine Fn.of (by kernel_rfl) (by kernel_rfl) (by kernel_rfl) ⟨(.v (.agg [(vI a0.fFrom), (vI a0.fTo), (vI a0.fIn), (vI a0.fOut), (vI a0.fWeight)]))::(.v (.agg [(vI a1.fFrom), (vI a1.fTo), (vI a1.fIn), (vI a1.fOut), (vI a1.fWeight)]))::u30 [], []⟩ (by kernel_rfl) (Wp.sq (Wp.rg (Ops.sg 3 3 (Ops.dn (seqQ.n (Wp.sq (Wp.rg (Ops.sg 4 4 ?_))))))))
 obtain ⟨v1, ev1, h⟩ := bnd_some h
 refine Ops.on 5 (fun h0 e0 => (call_ok (E' := E) (h := h0) (by kernel_rfl) (Args.v (vI a0.fFrom) (eI a0.fFrom) (by kernel_rfl) (Args.v (vI a1.fFrom) (eI a1.fFrom) (by kernel_rfl) Args.nil)) (ok77 m a0.fFrom a1.fFrom v1 ev1 n (by omega)))) ?_
 refine Ops.sg 4 9 ?_
 obtain ⟨v2, ev2, h⟩ := bnd_some h
 refine Ops.on 10 (fun h0 e0 => (call_ok (E' := E) (h := h0) (by kernel_rfl) (Args.v (vI a0.fIn) (eI a0.fIn) (by kernel_rfl) (Args.v (vI a1.fIn) (eI a1.fIn) (by kernel_rfl) Args.nil)) (ok77 m a0.fIn a1.fIn v2 ev2 n (by omega)))) ?_
 refine Ops.sg 4 14 ?_
 obtain ⟨v3, ev3, h⟩ := bnd_some h
 refine Ops.on 15 (fun h0 e0 => (call_ok (E' := E) (h := h0) (by kernel_rfl) (Args.v (vI a0.fOut) (eI a0.fOut) (by kernel_rfl) (Args.v (vI a1.fOut) (eI a1.fOut) (by kernel_rfl) Args.nil)) (ok77 m a0.fOut a1.fOut v3 ev3 n (by omega)))) ?_
 refine Ops.sg 4 19 ?_
 obtain ⟨v4, ev4, h⟩ := bnd_some h
 refine Ops.on 20 (fun h0 e0 => (call_ok (E' := E) (h := h0) (by kernel_rfl) (Args.v (vI a0.fTo) (eI a0.fTo) (by kernel_rfl) (Args.v (vI a1.fTo) (eI a1.fTo) (by kernel_rfl) Args.nil)) (ok77 m a0.fTo a1.fTo v4 ev4 n (by omega)))) ?_
 refine Ops.sg 4 24 ?_
 obtain ⟨v5, ev5, h⟩ := bnd_some h
 refine Ops.on 25 (fun h0 e0 => (call_ok (E' := E) (h := h0) (by kernel_rfl) (Args.v (vI a0.fWeight) (eI a0.fWeight) (by kernel_rfl) (Args.v (vI a1.fWeight) (eI a1.fWeight) (by kernel_rfl) Args.nil)) (ok77 m a0.fWeight a1.fWeight v5 ev5 n (by omega)))) ?_
 refine Ops.sg 1 26 ?_
 obtain ⟨v6, ev6, h⟩ := bnd_some h
 refine Ops.on 27 (fun h0 e0 => (call_ok (E' := E) (h := h0) (by kernel_rfl) (Args.v (.sl .nonfull (List.map eI ([v1, v2, v3, v4, v5]))) ((eL eI) ([v1, v2, v3, v4, v5])) (by kernel_rfl) Args.nil) (ok76 m ([v1, v2, v3, v4, v5]) v6 ev6 n (by omega)))) ?_
 refine Ops.sg 1 28 (Ops.dn (seqQ.n (Wp.rt ?_)))
 exact fnQ.r' (X59 n) (fun z => (eI z)) h (RetOk.mk' (dI v6) (by kernel_rfl) (by kernel_rfl))
noncomputable def f61_r1 (m : Nat) (v131 : Int) (v195 : Bool) : Option (Stp S26 (Int)) :=
 cnd v195
 (bnd (f100 m 13 v131) fun v197 =>
 some (.ret v197))
 (some (.nxt (w64 (v131 + 1))))
noncomputable def f61_r2 (m : Nat) (a0 : S32) (v131 : Int) (v141 : S134) (v180 : Bool) : Option (Stp S26 (Int)) :=
 cnd v180
 (bnd (f100 m 3 v131) fun v182 =>
 some (.ret v182))
 (bnd (cnd (decide (v131 > 0))
 (bnd (idx a0.fArcs (w64 (v131 - 1))) fun v198 =>
 bnd (f59 m v198 v141) fun v199 =>
 some (decide (v199 ≥ 0)))
 (some false)) fun v195 =>
 f61_r1 m v131 v195)
noncomputable def f61_r3 (m : Nat) (a0 : S32) (v131 : Int) (v141 : S134) (v171 : Bool) : Option (Stp S26 (Int)) :=
 bnd (cnd v171
 (some true)
 (bnd (f99 m v141.fWeight 0 1000000) fun v200 =>
 some (!v200))) fun v180 =>
 f61_r2 m a0 v131 v141 v180
noncomputable def f61_r4 (m : Nat) (a0 : S32) (v131 : Int) (v141 : S134) (v162 : Bool) : Option (Stp S26 (Int)) :=
 bnd (cnd v162
 (some true)
 (bnd (f99 m v141.fOut 0 1114111) fun v201 =>
 some (!v201))) fun v171 =>
 f61_r3 m a0 v131 v141 v171
noncomputable def f61_r5 (m : Nat) (a0 : S32) (v131 : Int) (v141 : S134) (v153 : Bool) : Option (Stp S26 (Int)) :=
 bnd (cnd v153
 (some true)
 (bnd (f99 m v141.fIn 0 1114111) fun v202 =>
 some (!v202))) fun v162 =>
 f61_r4 m a0 v131 v141 v162
noncomputable def f61_B6 (m : Nat) (a0 : S32) (v131 : Int) : Option (Stp S26 (Int)) :=
 cnd (decide (v131 < (a0.fArcs.length : Int)))
 (bnd (idx a0.fArcs v131) fun v141 =>
 bnd (f99 m v141.fFrom 0 (w64 (a0.fStates - 1))) fun v142 =>
 bnd (cnd (!v142)
 (some true)
 (bnd (f99 m v141.fTo 0 (w64 (a0.fStates - 1))) fun v203 =>
 some (!v203))) fun v153 =>
 f61_r5 m a0 v131 v141 v153)
 (some (.brk v131))
noncomputable def f61_r7 (m : Nat) (a0 : S32) (v268 : Int) (v303 : Bool) : Option (Stp S26 (Int)) :=
 cnd v303
 (bnd (f100 m 13 (w64 ((a0.fArcs.length : Int) + v268))) fun v305 =>
 some (.ret v305))
 (some (.nxt (w64 (v268 + 1))))
noncomputable def f61_r8 (m : Nat) (a0 : S32) (v268 : Int) (v278 : S136) (v287 : Bool) : Option (Stp S26 (Int)) :=
 cnd v287
 (bnd (f100 m 3 (w64 ((a0.fArcs.length : Int) + v268))) fun v289 =>
 some (.ret v289))
 (bnd (cnd (decide (v268 > 0))
 (bnd (idx a0.fFinals (w64 (v268 - 1))) fun v306 =>
 some (decide (v306.fState ≥ v278.fState)))
 (some false)) fun v303 =>
 f61_r7 m a0 v268 v303)
noncomputable def f61_B9 (m : Nat) (a0 : S32) (v268 : Int) : Option (Stp S26 (Int)) :=
 cnd (decide (v268 < (a0.fFinals.length : Int)))
 (bnd (idx a0.fFinals v268) fun v278 =>
 bnd (f99 m v278.fState 0 (w64 (a0.fStates - 1))) fun v279 =>
 bnd (cnd (!v279)
 (some true)
 (bnd (f99 m v278.fWeight 0 1000000) fun v307 =>
 some (!v307))) fun v287 =>
 f61_r8 m a0 v268 v278 v287)
 (some (.brk v268))
noncomputable def f61 (m : Nat) (a0 : S32) : Option S26 :=
 bnd (f99 m a0.fStates 0 400) fun v1 =>
 cnd (!v1)
 (bnd (f100 m 3 (-1)) fun v2 =>
 some v2)
 (cnd (decide ((a0.fArcs.length : Int) > 2000))
 (bnd (f100 m 2 (-1)) fun v3 =>
 some v3)
 (brk (iter (fun (y : Int) => f61_B6 m a0 y) m 0) some fun y205 =>
 brk (iter (fun (y : Int) => f61_B9 m a0 y) m 0) some fun y309 =>
 some ((⟨0, 0⟩ : S26))))
noncomputable abbrev X61 (n : Nat) : Cx := cxOf Proofs.Tryz.prog E 61 n
noncomputable def C61 : Code := bodyOf Proofs.Tryz.prog 61
noncomputable abbrev b61_0 (w0 : S32) : AObj := .cells [(dI w0.fStates), (dP e134 w0.fArcs), (dP e136 w0.fFinals)]
noncomputable abbrev b61_1 : AObj := .cells [(dI 0), (dI 0)]
noncomputable abbrev b61_2 (w0 : S134) : AObj := .cells [(dI w0.fFrom), (dI w0.fTo), (dI w0.fIn), (dI w0.fOut), (dI w0.fWeight)]
noncomputable abbrev k61_0 : List Nat := [1, 2, 18, 19, 20]
noncomputable abbrev k61_1 : List Nat := [1, 2, 78, 79, 80]
theorem ok61 (m : Nat) (a0 : S32) (o : S26) (h : f61 m a0 = some o) (n : Nat) (hn : m + 4 ≤ n) : Fn Proofs.Tryz.prog E n 61 [.v (e32 a0)] (e26 o) := by
 obtain ⟨n, rfl⟩ : ∃ q, n = q + 1 := ⟨n - 1, by omega⟩
 unfold f61 at h
 refine Fn.of (by kernel_rfl) (by kernel_rfl) (by kernel_rfl) ⟨(.v (.agg [(vI a0.fStates), (vP e134 a0.fArcs), (vP e136 a0.fFinals)]))::u40 (u40 (u40 (u5 []))), []⟩ (by kernel_rfl) (Wp.sq (Wp.rg (Ops.sg 2 2 (Ops.dn (seqQ.n (Wp.sq (Wp.sq (Wp.rg (Ops.sg 2 2 ?_)))))))))
 obtain ⟨v1, ev1, h⟩ := bnd_some h
 refine Ops.on 3 (fun h0 e0 => (call_ok (E' := E) (h := h0) (by kernel_rfl) (Args.v (vI a0.fStates) (eI a0.fStates) (by kernel_rfl) (Args.v (vI 0) (eI 0) (by kernel_rfl) (Args.v (vI 400) (eI 400) (by kernel_rfl) Args.nil))) (ok99 m a0.fStates 0 400 v1 ev1 n (by omega)))) ?_
 refine Ops.sg 1 4 (Ops.dn (seqQ.n ?_))
 refine Wp.cd h [1, 2] 2 (fun h => ?_) (fun h => ?_)
 ·refine Wp.sq (Wp.rg ?_)
  obtain ⟨v2, ev2, h⟩ := bnd_some h
  refine Ops.on 1 (fun h0 e0 => (call_ok (E' := E) (h := h0) (by kernel_rfl) (Args.v (vI 3) (eI 3) (by kernel_rfl) (Args.v (vI (-1)) (eI (-1)) (by kernel_rfl) Args.nil)) (ok100 m 3 (-1) v2 ev2 n (by omega)))) ?_
  refine Ops.sg 1 2 (Ops.dn (seqQ.n (Wp.rt (sqQ.r (seqQ.r ?_)))))
  exact fnQ.r' (X61 n) (fun z => (e26 z)) h (RetOk.mk' (.v (.agg [(vI v2.fCode), (vI v2.fIndex)])) (by kernel_rfl) (by kernel_rfl))
 ·refine Wp.sk (sqQ.n' (seqQ.n (Wp.sq (Wp.sq (Wp.rg (Ops.sg 2 2 ?_))))))
  refine Ops.on 3 (fun h0 e0 => (len_r (T := T) h0 30 135 .plain e134 a0.fArcs (by kernel_rfl))) ?_
  refine Ops.sg 1 4 (Ops.dn (seqQ.n ?_))
  refine Wp.cd h [1, 2] 2 (fun h => ?_) (fun h => ?_)
  ·refine Wp.sq (Wp.rg ?_)
   obtain ⟨v3, ev3, h⟩ := bnd_some h
   refine Ops.on 1 (fun h0 e0 => (call_ok (E' := E) (h := h0) (by kernel_rfl) (Args.v (vI 2) (eI 2) (by kernel_rfl) (Args.v (vI (-1)) (eI (-1)) (by kernel_rfl) Args.nil)) (ok100 m 2 (-1) v3 ev3 n (by omega)))) ?_
   refine Ops.sg 1 2 (Ops.dn (seqQ.n (Wp.rt (sqQ.r (seqQ.r ?_)))))
   exact fnQ.r' (X61 n) (fun z => (e26 z)) h (RetOk.mk' (.v (.agg [(vI v3.fCode), (vI v3.fIndex)])) (by kernel_rfl) (by kernel_rfl))
  ·refine Wp.sk (sqQ.n' (seqQ.n (Wp.sq (Wp.sq (Wp.rg (Ops.sg 2 2 ?_))))))
   refine Ops.on 3 (fun h0 e0 => (len_r (T := T) h0 30 135 .plain e134 a0.fArcs (by kernel_rfl))) ?_
   refine Ops.sg 1 4 (Ops.dn (seqQ.n (Wp.bk 0 [1, 2] 2 ?_)))
   have hLx204 : ∀ (kx133 : Nat) (v131 : Int)  (ox132 : S26 ⊕ (Int)), iter (fun (y : Int) => f61_B6 m a0 y) kx133 v131 = some ox132 → ∀ nx134, kx133 ≤ nx134 → (∀ r, ox132 = .inl r → ∀ σ, RetOk (X61 n) (resOf Proofs.Tryz.prog 61) (e26 r) σ → (seqQ (X61 n) (cR (cR (cR (cR C61)))) (fnQ (X61 n).E.T (resOf Proofs.Tryz.prog 61) (e26 o))) .ret σ) → (∀ (y : Int) , ox132 = .inr y → (seqQ (X61 n) (cR (cR (cR (cR C61)))) (fnQ (X61 n).E.T (resOf Proofs.Tryz.prog 61) (e26 o))) .normal ⟨Zs16 (q15 ((dP e134 a0.fArcs)::(dI (a0.fArcs.length : Int))::(dI y)::q40 (q40 (q25 [])))), [(b61_0 a0), b61_1]⟩) → Lp (X61 n) k61_0 2 (cL (cL (cR (cL (cR (cR (cR C61))))))) nx134 ⟨Zs16 (q15 ((dP e134 a0.fArcs)::(dI (a0.fArcs.length : Int))::(dI v131)::q40 (q40 (q25 [])))), [(b61_0 a0), b61_1]⟩ (blkQ (X61 n) 0 [1, 2] 2 (seqQ (X61 n) (cR (cR (cR (cR C61)))) (fnQ (X61 n).E.T (resOf Proofs.Tryz.prog 61) (e26 o)))) := by
    intro kx133
    induction kx133 with
    | zero => intro v131  ox132 h; exact (iter_zero h).elim
    | succ kx133 ihx135 =>
     intro v131  ox132 h nx134 hnx138 hrx136 hxx137
     obtain ⟨nx134, rfl⟩ : ∃ q, nx134 = q + 1 := ⟨nx134 - 1, by omega⟩
     obtain ⟨sx139, h, hsx140⟩ := iter_some h
     have h : f61_B6 m a0 v131 = some sx139 := h
     unfold f61_B6 at h
     refine Lp.succ (Wp.sq (Wp.rg (Ops.sg 1 1 (Ops.dn (seqQ.n (Wp.sq ?_))))))
     refine Wp.cd h k61_0 2 (fun h => ?_) (fun h => ?_)
     ·refine Wp.sk (sqQ.n' (seqQ.n (Wp.sq (Wp.bk 1 k61_0 2 (Wp.sq (Wp.rg (Ops.sg 1 1 ?_)))))))
      obtain ⟨v141, ev141, h⟩ := bnd_some h
      refine Ops.on 2 (fun h0 e0 => (ix_r (T := T) h0 30 135 5 .plain e134 a0.fArcs v131 v141 ev141 (by kernel_rfl) (by kernel_rfl) (fun _ => rfl))) ?_
      refine Ops.sg 4 6 (Ops.dn (seqQ.n (Wp.sq (Wp.sq (Wp.rg (Ops.sg 5 5 ?_))))))
      obtain ⟨v142, ev142, h⟩ := bnd_some h
      refine Ops.on 6 (fun h0 e0 => (call_ok (E' := E) (h := h0) (by kernel_rfl) (Args.v (vI v141.fFrom) (eI v141.fFrom) (by kernel_rfl) (Args.v (vI 0) (eI 0) (by kernel_rfl) (Args.v (vI (w64 (a0.fStates - 1))) (eI (w64 (a0.fStates - 1))) (by kernel_rfl) Args.nil))) (ok99 m v141.fFrom 0 (w64 (a0.fStates - 1)) v142 ev142 n (by omega)))) ?_
      refine Ops.sg 2 8 ?_
      refine Ops.hv (fun KQ => ∀ (d145 d146 d147 d148 d149 d150 d151 : D) (v152 v153 : Bool), f61_r5 m a0 v131 v141 v153 = some sx139 → KQ 16 ⟨Zs0 v131 a0.fArcs (a0.fArcs.length : Int) (decide (v131 < (a0.fArcs.length : Int))) (.vptr [(vI v141.fFrom), (vI v141.fTo), (vI v141.fIn), (vI v141.fOut), (vI v141.fWeight)]) (.v (.agg [(vI v141.fFrom), (vI v141.fTo), (vI v141.fIn), (vI v141.fOut), (vI v141.fWeight)])) v141.fFrom a0.fStates (w64 (a0.fStates - 1)) v142 v152 (d145::d146::d147::d148::d149::d150::d151::(dB v153)::q40 (q40 (q5 []))), [(b61_0 a0), b61_1, (b61_2 v141)]⟩) ?_ fun J61j154 => ?_
      ·intro d145 d146 d147 d148 d149 d150 d151 v152 v153 h
       unfold f61_r5 at h
       refine Ops.sg 1 17 ?_
       refine Ops.hv (fun KQ => ∀ (d157 d158 d159 d160 : D) (v161 v162 : Bool), f61_r4 m a0 v131 v141 v162 = some sx139 → KQ 22 ⟨Zs0 v131 a0.fArcs (a0.fArcs.length : Int) (decide (v131 < (a0.fArcs.length : Int))) (.vptr [(vI v141.fFrom), (vI v141.fTo), (vI v141.fIn), (vI v141.fOut), (vI v141.fWeight)]) (.v (.agg [(vI v141.fFrom), (vI v141.fTo), (vI v141.fIn), (vI v141.fOut), (vI v141.fWeight)])) v141.fFrom a0.fStates (w64 (a0.fStates - 1)) v142 v152 (d145::d146::d147::d148::d149::d150::d151::(dB v161)::(dB v161)::d157::d158::d159::d160::(dB v162)::q40 (q39 [])), [(b61_0 a0), b61_1, (b61_2 v141)]⟩) ?_ fun J61j163 => ?_
       ·intro d157 d158 d159 d160 v161 v162 h
        unfold f61_r4 at h
        refine Ops.sg 1 23 ?_
        refine Ops.hv (fun KQ => ∀ (d166 d167 d168 d169 : D) (v170 v171 : Bool), f61_r3 m a0 v131 v141 v171 = some sx139 → KQ 28 ⟨Zs0 v131 a0.fArcs (a0.fArcs.length : Int) (decide (v131 < (a0.fArcs.length : Int))) (.vptr [(vI v141.fFrom), (vI v141.fTo), (vI v141.fIn), (vI v141.fOut), (vI v141.fWeight)]) (.v (.agg [(vI v141.fFrom), (vI v141.fTo), (vI v141.fIn), (vI v141.fOut), (vI v141.fWeight)])) v141.fFrom a0.fStates (w64 (a0.fStates - 1)) v142 v152 (d145::d146::d147::d148::d149::d150::d151::(dB v161)::(dB v161)::d157::d158::d159::d160::(dB v170)::(dB v170)::d166::d167::d168::d169::(dB v171)::q40 (q33 [])), [(b61_0 a0), b61_1, (b61_2 v141)]⟩) ?_ fun J61j172 => ?_
        ·intro d166 d167 d168 d169 v170 v171 h
         unfold f61_r3 at h
         refine Ops.sg 1 29 ?_
         refine Ops.hv (fun KQ => ∀ (d175 d176 d177 d178 : D) (v179 v180 : Bool), f61_r2 m a0 v131 v141 v180 = some sx139 → KQ 34 ⟨Zs0 v131 a0.fArcs (a0.fArcs.length : Int) (decide (v131 < (a0.fArcs.length : Int))) (.vptr [(vI v141.fFrom), (vI v141.fTo), (vI v141.fIn), (vI v141.fOut), (vI v141.fWeight)]) (.v (.agg [(vI v141.fFrom), (vI v141.fTo), (vI v141.fIn), (vI v141.fOut), (vI v141.fWeight)])) v141.fFrom a0.fStates (w64 (a0.fStates - 1)) v142 v152 (d145::d146::d147::d148::d149::d150::d151::(dB v161)::(dB v161)::d157::d158::d159::d160::(dB v170)::(dB v170)::d166::d167::d168::d169::(dB v179)::(dB v179)::d175::d176::d177::d178::(dB v180)::q40 (q27 [])), [(b61_0 a0), b61_1, (b61_2 v141)]⟩) ?_ fun J61j181 => ?_
         ·intro d175 d176 d177 d178 v179 v180 h
          unfold f61_r2 at h
          refine Ops.dn (seqQ.n ?_)
          refine Wp.cd h [1, 2, 3, 4, 18, 19, 20] 3 (fun h => ?_) (fun h => ?_)
          ·refine Wp.sq (Wp.rg (Ops.sg 1 1 ?_))
           obtain ⟨v182, ev182, h⟩ := bnd_some h
           refine Ops.on 2 (fun h0 e0 => (call_ok (E' := E) (h := h0) (by kernel_rfl) (Args.v (vI 3) (eI 3) (by kernel_rfl) (Args.v (vI v131) (eI v131) (by kernel_rfl) Args.nil)) (ok100 m 3 v131 v182 ev182 n (by omega)))) ?_
           refine Ops.sg 1 3 (Ops.dn (seqQ.n (Wp.rt (sqQ.r (seqQ.r (blkQ.r (seqQ.r ?_)))))))
           cases h
           refine lpQ.r (blkQ.r ?_)
           exact hrx136 _ hsx140 _ (RetOk.forget k61_0 (by kernel_rfl) (RetOk.mk' (.v (.agg [(vI v182.fCode), (vI v182.fIndex)])) (by kernel_rfl) (by kernel_rfl)))
          ·refine Wp.sk (sqQ.n' (seqQ.n (Wp.sq (Wp.rg (Ops.sg 3 3 ?_)))))
           refine Ops.hv (fun KQ => ∀ (d185 d186 d187 d188 d189 d190 d191 d192 d193 : D) (v194 v195 : Bool), f61_r1 m v131 v195 = some sx139 → KQ 13 ⟨Zs0 v131 a0.fArcs (a0.fArcs.length : Int) (decide (v131 < (a0.fArcs.length : Int))) (.vptr [(vI v141.fFrom), (vI v141.fTo), (vI v141.fIn), (vI v141.fOut), (vI v141.fWeight)]) (.v (.agg [(vI v141.fFrom), (vI v141.fTo), (vI v141.fIn), (vI v141.fOut), (vI v141.fWeight)])) v141.fFrom a0.fStates (w64 (a0.fStates - 1)) v142 v152 (d145::d146::d147::d148::d149::d150::d151::(dB v161)::(dB v161)::d157::d158::d159::d160::(dB v170)::(dB v170)::d166::d167::d168::d169::(dB v179)::(dB v179)::d175::d176::d177::d178::(dB v180)::q2 ((dI v131)::(dB v194)::(dB v194)::d185::d186::d187::d188::d189::d190::d191::d192::d193::(dB v195)::q40 (q12 []))), [(b61_0 a0), b61_1, (b61_2 v141)]⟩) ?_ fun J61j196 => ?_
           ·intro d185 d186 d187 d188 d189 d190 d191 d192 d193 v194 v195 h
            unfold f61_r1 at h
            refine Ops.dn (seqQ.n ?_)
            refine Wp.cd h k61_0 3 (fun h => ?_) (fun h => ?_)
            ·refine Wp.sq (Wp.rg (Ops.sg 1 1 ?_))
             obtain ⟨v197, ev197, h⟩ := bnd_some h
             refine Ops.on 2 (fun h0 e0 => (call_ok (E' := E) (h := h0) (by kernel_rfl) (Args.v (vI 13) (eI 13) (by kernel_rfl) (Args.v (vI v131) (eI v131) (by kernel_rfl) Args.nil)) (ok100 m 13 v131 v197 ev197 n (by omega)))) ?_
             refine Ops.sg 1 3 (Ops.dn (seqQ.n (Wp.rt (sqQ.r (blkQ.r (seqQ.r ?_))))))
             cases h
             refine lpQ.r (blkQ.r ?_)
             exact hrx136 _ hsx140 _ (RetOk.forget k61_0 (by kernel_rfl) (RetOk.mk' (.v (.agg [(vI v197.fCode), (vI v197.fIndex)])) (by kernel_rfl) (by kernel_rfl)))
            ·refine Wp.sk (sqQ.n' (blkQ.n' (seqQ.n (Wp.rg (Ops.sg 2 2 (Ops.dn (lpQ.m ⟨Zs16 (q15 ((dP e134 a0.fArcs)::(dI (a0.fArcs.length : Int))::(dI (w64 (v131 + 1)))::q40 (q40 (q25 [])))), [(b61_0 a0), b61_1]⟩ ?_)))))))
             cases h
             exact ihx135 (w64 (v131 + 1))  _ hsx140 _ (by omega) hrx136 hxx137
           obtain ⟨v195, ev195, h⟩ := bnd_some h
           refine Ops.hv (fun KQ => ∀ v183 : Bool, (cnd v183 (bnd (idx a0.fArcs (w64 (v131 - 1))) fun v198 => bnd (f59 m v198 v141) fun v199 => some (decide (v199 ≥ 0))) (some false)) = some v195 → KQ 3 ⟨Zs0 v131 a0.fArcs (a0.fArcs.length : Int) (decide (v131 < (a0.fArcs.length : Int))) (.vptr [(vI v141.fFrom), (vI v141.fTo), (vI v141.fIn), (vI v141.fOut), (vI v141.fWeight)]) (.v (.agg [(vI v141.fFrom), (vI v141.fTo), (vI v141.fIn), (vI v141.fOut), (vI v141.fWeight)])) v141.fFrom a0.fStates (w64 (a0.fStates - 1)) v142 v152 (d145::d146::d147::d148::d149::d150::d151::(dB v161)::(dB v161)::d157::d158::d159::d160::(dB v170)::(dB v170)::d166::d167::d168::d169::(dB v179)::(dB v179)::d175::d176::d177::d178::(dB v180)::q2 ((dI v131)::(dB v183)::(dB v183)::q40 (q22 []))), [(b61_0 a0), b61_1, (b61_2 v141)]⟩) ?_ fun G61g184 => Ops.sx (G61g184 (decide (v131 > 0)) ev195)
           intro v183 ev195
           cases v183
           ·have ev195 := cnd_f ev195
            refine Ops.sg 10 13 ?_
            exact Ops.sx (J61j196 U U U U U U U U U false false (some_sub (fun v195 => f61_r1 m v131 v195 = some sx139) ev195 h))
           ·have ev195 := cnd_t ev195
            refine Ops.sg 4 7 ?_
            obtain ⟨v198, ev198, ev195⟩ := bnd_some ev195
            refine Ops.on 8 (fun h0 e0 => (ix_r (T := T) h0 30 135 5 .plain e134 a0.fArcs (w64 (v131 - 1)) v198 ev198 (by kernel_rfl) (by kernel_rfl) (fun _ => rfl))) ?_
            refine Ops.sg 2 10 ?_
            obtain ⟨v199, ev199, ev195⟩ := bnd_some ev195
            refine Ops.on 11 (fun h0 e0 => (call_ok (E' := E) (h := h0) (by kernel_rfl) (Args.v (.agg [(vI v198.fFrom), (vI v198.fTo), (vI v198.fIn), (vI v198.fOut), (vI v198.fWeight)]) (e134 v198) (by kernel_rfl) (Args.v (.agg [(vI v141.fFrom), (vI v141.fTo), (vI v141.fIn), (vI v141.fOut), (vI v141.fWeight)]) (e134 v141) (by kernel_rfl) Args.nil)) (ok59 m v198 v141 v199 ev199 n (by omega)))) ?_
            refine Ops.sg 2 13 ?_
            exact Ops.sx (J61j196 (.ptr 0 1) (dP e134 a0.fArcs) (dI v131) (dI (w64 (v131 - 1))) ((.vptr [(vI v198.fFrom), (vI v198.fTo), (vI v198.fIn), (vI v198.fOut), (vI v198.fWeight)])) ((.v (.agg [(vI v198.fFrom), (vI v198.fTo), (vI v198.fIn), (vI v198.fOut), (vI v198.fWeight)]))) ((.v (.agg [(vI v141.fFrom), (vI v141.fTo), (vI v141.fIn), (vI v141.fOut), (vI v141.fWeight)]))) (dI v199) (dB (decide (v199 ≥ 0))) true (decide (v199 ≥ 0)) (some_sub (fun v195 => f61_r1 m v131 v195 = some sx139) ev195 h))
         obtain ⟨v180, ev180, h⟩ := bnd_some h
         refine Ops.hv (fun KQ => ∀ v173 : Bool, (cnd v173 (some true) (bnd (f99 m v141.fWeight 0 1000000) fun v200 => some (!v200))) = some v180 → KQ 29 ⟨Zs0 v131 a0.fArcs (a0.fArcs.length : Int) (decide (v131 < (a0.fArcs.length : Int))) (.vptr [(vI v141.fFrom), (vI v141.fTo), (vI v141.fIn), (vI v141.fOut), (vI v141.fWeight)]) (.v (.agg [(vI v141.fFrom), (vI v141.fTo), (vI v141.fIn), (vI v141.fOut), (vI v141.fWeight)])) v141.fFrom a0.fStates (w64 (a0.fStates - 1)) v142 v152 (d145::d146::d147::d148::d149::d150::d151::(dB v161)::(dB v161)::d157::d158::d159::d160::(dB v170)::(dB v170)::d166::d167::d168::d169::(dB v173)::(dB v173)::q40 (q32 [])), [(b61_0 a0), b61_1, (b61_2 v141)]⟩) ?_ fun G61g174 => Ops.sx (G61g174 v171 ev180)
         intro v173 ev180
         cases v173
         ·have ev180 := cnd_f ev180
          refine Ops.sg 2 31 ?_
          obtain ⟨v200, ev200, ev180⟩ := bnd_some ev180
          refine Ops.on 32 (fun h0 e0 => (call_ok (E' := E) (h := h0) (by kernel_rfl) (Args.v (vI v141.fWeight) (eI v141.fWeight) (by kernel_rfl) (Args.v (vI 0) (eI 0) (by kernel_rfl) (Args.v (vI 1000000) (eI 1000000) (by kernel_rfl) Args.nil))) (ok99 m v141.fWeight 0 1000000 v200 ev200 n (by omega)))) ?_
          refine Ops.sg 2 34 ?_
          exact Ops.sx (J61j181 (.ptr 2 4) (dI v141.fWeight) (dB v200) (dB (!v200)) false (!v200) (some_sub (fun v180 => f61_r2 m a0 v131 v141 v180 = some sx139) ev180 h))
         ·have ev180 := cnd_t ev180
          refine Ops.sg 5 34 ?_
          exact Ops.sx (J61j181 U U U U true true (some_sub (fun v180 => f61_r2 m a0 v131 v141 v180 = some sx139) ev180 h))
        obtain ⟨v171, ev171, h⟩ := bnd_some h
        refine Ops.hv (fun KQ => ∀ v164 : Bool, (cnd v164 (some true) (bnd (f99 m v141.fOut 0 1114111) fun v201 => some (!v201))) = some v171 → KQ 23 ⟨Zs0 v131 a0.fArcs (a0.fArcs.length : Int) (decide (v131 < (a0.fArcs.length : Int))) (.vptr [(vI v141.fFrom), (vI v141.fTo), (vI v141.fIn), (vI v141.fOut), (vI v141.fWeight)]) (.v (.agg [(vI v141.fFrom), (vI v141.fTo), (vI v141.fIn), (vI v141.fOut), (vI v141.fWeight)])) v141.fFrom a0.fStates (w64 (a0.fStates - 1)) v142 v152 (d145::d146::d147::d148::d149::d150::d151::(dB v161)::(dB v161)::d157::d158::d159::d160::(dB v164)::(dB v164)::q40 (q38 [])), [(b61_0 a0), b61_1, (b61_2 v141)]⟩) ?_ fun G61g165 => Ops.sx (G61g165 v162 ev171)
        intro v164 ev171
        cases v164
        ·have ev171 := cnd_f ev171
         refine Ops.sg 2 25 ?_
         obtain ⟨v201, ev201, ev171⟩ := bnd_some ev171
         refine Ops.on 26 (fun h0 e0 => (call_ok (E' := E) (h := h0) (by kernel_rfl) (Args.v (vI v141.fOut) (eI v141.fOut) (by kernel_rfl) (Args.v (vI 0) (eI 0) (by kernel_rfl) (Args.v (vI 1114111) (eI 1114111) (by kernel_rfl) Args.nil))) (ok99 m v141.fOut 0 1114111 v201 ev201 n (by omega)))) ?_
         refine Ops.sg 2 28 ?_
         exact Ops.sx (J61j172 (.ptr 2 3) (dI v141.fOut) (dB v201) (dB (!v201)) false (!v201) (some_sub (fun v171 => f61_r3 m a0 v131 v141 v171 = some sx139) ev171 h))
        ·have ev171 := cnd_t ev171
         refine Ops.sg 5 28 ?_
         exact Ops.sx (J61j172 U U U U true true (some_sub (fun v171 => f61_r3 m a0 v131 v141 v171 = some sx139) ev171 h))
       obtain ⟨v162, ev162, h⟩ := bnd_some h
       refine Ops.hv (fun KQ => ∀ v155 : Bool, (cnd v155 (some true) (bnd (f99 m v141.fIn 0 1114111) fun v202 => some (!v202))) = some v162 → KQ 17 ⟨Zs0 v131 a0.fArcs (a0.fArcs.length : Int) (decide (v131 < (a0.fArcs.length : Int))) (.vptr [(vI v141.fFrom), (vI v141.fTo), (vI v141.fIn), (vI v141.fOut), (vI v141.fWeight)]) (.v (.agg [(vI v141.fFrom), (vI v141.fTo), (vI v141.fIn), (vI v141.fOut), (vI v141.fWeight)])) v141.fFrom a0.fStates (w64 (a0.fStates - 1)) v142 v152 (d145::d146::d147::d148::d149::d150::d151::(dB v155)::(dB v155)::q40 (q40 (q4 []))), [(b61_0 a0), b61_1, (b61_2 v141)]⟩) ?_ fun G61g156 => Ops.sx (G61g156 v153 ev162)
       intro v155 ev162
       cases v155
       ·have ev162 := cnd_f ev162
        refine Ops.sg 2 19 ?_
        obtain ⟨v202, ev202, ev162⟩ := bnd_some ev162
        refine Ops.on 20 (fun h0 e0 => (call_ok (E' := E) (h := h0) (by kernel_rfl) (Args.v (vI v141.fIn) (eI v141.fIn) (by kernel_rfl) (Args.v (vI 0) (eI 0) (by kernel_rfl) (Args.v (vI 1114111) (eI 1114111) (by kernel_rfl) Args.nil))) (ok99 m v141.fIn 0 1114111 v202 ev202 n (by omega)))) ?_
        refine Ops.sg 2 22 ?_
        exact Ops.sx (J61j163 (.ptr 2 2) (dI v141.fIn) (dB v202) (dB (!v202)) false (!v202) (some_sub (fun v162 => f61_r4 m a0 v131 v141 v162 = some sx139) ev162 h))
       ·have ev162 := cnd_t ev162
        refine Ops.sg 5 22 ?_
        exact Ops.sx (J61j163 U U U U true true (some_sub (fun v162 => f61_r4 m a0 v131 v141 v162 = some sx139) ev162 h))
      obtain ⟨v153, ev153, h⟩ := bnd_some h
      refine Ops.hv (fun KQ => ∀ v143 : Bool, (cnd v143 (some true) (bnd (f99 m v141.fTo 0 (w64 (a0.fStates - 1))) fun v203 => some (!v203))) = some v153 → KQ 8 ⟨Zs0 v131 a0.fArcs (a0.fArcs.length : Int) (decide (v131 < (a0.fArcs.length : Int))) (.vptr [(vI v141.fFrom), (vI v141.fTo), (vI v141.fIn), (vI v141.fOut), (vI v141.fWeight)]) (.v (.agg [(vI v141.fFrom), (vI v141.fTo), (vI v141.fIn), (vI v141.fOut), (vI v141.fWeight)])) v141.fFrom a0.fStates (w64 (a0.fStates - 1)) v142 v143 (q40 (q40 (q13 []))), [(b61_0 a0), b61_1, (b61_2 v141)]⟩) ?_ fun G61g144 => Ops.sx (G61g144 (!v142) ev153)
      intro v143 ev153
      cases v143
      ·have ev153 := cnd_f ev153
       refine Ops.sg 5 13 ?_
       obtain ⟨v203, ev203, ev153⟩ := bnd_some ev153
       refine Ops.on 14 (fun h0 e0 => (call_ok (E' := E) (h := h0) (by kernel_rfl) (Args.v (vI v141.fTo) (eI v141.fTo) (by kernel_rfl) (Args.v (vI 0) (eI 0) (by kernel_rfl) (Args.v (vI (w64 (a0.fStates - 1))) (eI (w64 (a0.fStates - 1))) (by kernel_rfl) Args.nil))) (ok99 m v141.fTo 0 (w64 (a0.fStates - 1)) v203 ev203 n (by omega)))) ?_
       refine Ops.sg 2 16 ?_
       exact Ops.sx (J61j154 (.ptr 2 1) (dI v141.fTo) (.ptr 0 0) (dI a0.fStates) (dI (w64 (a0.fStates - 1))) (dB v203) (dB (!v203)) false (!v203) (some_sub (fun v153 => f61_r5 m a0 v131 v141 v153 = some sx139) ev153 h))
      ·have ev153 := cnd_t ev153
       refine Ops.sg 8 16 ?_
       exact Ops.sx (J61j154 U U U U U U U true true (some_sub (fun v153 => f61_r5 m a0 v131 v141 v153 = some sx139) ev153 h))
     ·refine Wp.ex 0 (sqQ.x (seqQ.x ?_))
      cases h
      refine lpQ.x (blkQ.w ⟨Zs16 (q15 ((dP e134 a0.fArcs)::(dI (a0.fArcs.length : Int))::(dI v131)::q40 (q40 (q25 [])))), [(b61_0 a0), b61_1]⟩ ?_)
      exact hxx137 v131  hsx140
   refine Wp.loop' k61_0 2 (by kernel_rfl) ⟨Zs16 (q15 ((dP e134 a0.fArcs)::(dI (a0.fArcs.length : Int))::(dI 0)::q40 (q40 (q25 [])))), [(b61_0 a0), b61_1]⟩ (by kernel_rfl) ?_
   rcases brk_some h with ⟨r206, er206, h⟩ | ⟨y205, ey205, h⟩
   ·refine hLx204 _ 0  _ er206 n (by omega) (fun r er σ hσ => ?_) (fun y  ey => by cases ey)
    cases er
    refine seqQ.r ?_
    exact fnQ.r' (X61 n) (fun z => (e26 z)) h hσ
   ·refine hLx204 _ 0  _ ey205 n (by omega) (fun r er => by cases er) (fun y  ey => ?_)
    cases ey
    refine seqQ.n (Wp.sq (Wp.sq (Wp.rg (Ops.sg 2 2 ?_))))
    refine Ops.on 3 (fun h0 e0 => (len_r (T := T) h0 31 137 .plain e136 a0.fFinals (by kernel_rfl))) ?_
    refine Ops.sg 1 4 (Ops.dn (seqQ.n (Wp.bk 2 [2] 2 ?_)))
    have hLx308 : ∀ (kx270 : Nat) (v268 : Int)  (ox269 : S26 ⊕ (Int)), iter (fun (y : Int) => f61_B9 m a0 y) kx270 v268 = some ox269 → ∀ nx271, kx270 ≤ nx271 → (∀ r, ox269 = .inl r → ∀ σ, RetOk (X61 n) (resOf Proofs.Tryz.prog 61) (e26 r) σ → (seqQ (X61 n) (cR (cR (cR (cR (cR C61))))) (fnQ (X61 n).E.T (resOf Proofs.Tryz.prog 61) (e26 o))) .ret σ) → (∀ (y : Int) , ox269 = .inr y → (seqQ (X61 n) (cR (cR (cR (cR (cR C61))))) (fnQ (X61 n).E.T (resOf Proofs.Tryz.prog 61) (e26 o))) .normal ⟨Zs16 (q40 (q35 ((dP e136 a0.fFinals)::(dI (a0.fFinals.length : Int))::(dI y)::q40 (q5 [])))), [(b61_0 a0), b61_1]⟩) → Lp (X61 n) k61_1 2 (cL (cL (cR (cL (cR (cR (cR (cR C61)))))))) nx271 ⟨Zs16 (q40 (q35 ((dP e136 a0.fFinals)::(dI (a0.fFinals.length : Int))::(dI v268)::q40 (q5 [])))), [(b61_0 a0), b61_1]⟩ (blkQ (X61 n) 2 [2] 2 (seqQ (X61 n) (cR (cR (cR (cR (cR C61))))) (fnQ (X61 n).E.T (resOf Proofs.Tryz.prog 61) (e26 o)))) := by
     intro kx270
     induction kx270 with
     | zero => intro v268  ox269 h; exact (iter_zero h).elim
     | succ kx270 ihx272 =>
      intro v268  ox269 h nx271 hnx275 hrx273 hxx274
      obtain ⟨nx271, rfl⟩ : ∃ q, nx271 = q + 1 := ⟨nx271 - 1, by omega⟩
      obtain ⟨sx276, h, hsx277⟩ := iter_some h
      have h : f61_B9 m a0 v268 = some sx276 := h
      unfold f61_B9 at h
      refine Lp.succ (Wp.sq (Wp.rg (Ops.sg 1 1 (Ops.dn (seqQ.n (Wp.sq ?_))))))
      refine Wp.cd h k61_1 2 (fun h => ?_) (fun h => ?_)
      ·refine Wp.sk (sqQ.n' (seqQ.n (Wp.sq (Wp.bk 3 k61_1 2 (Wp.sq (Wp.rg (Ops.sg 1 1 ?_)))))))
       obtain ⟨v278, ev278, h⟩ := bnd_some h
       refine Ops.on 2 (fun h0 e0 => (ix_r (T := T) h0 31 137 2 .plain e136 a0.fFinals v268 v278 ev278 (by kernel_rfl) (by kernel_rfl) (fun _ => rfl))) ?_
       refine Ops.sg 4 6 (Ops.dn (seqQ.n (Wp.sq (Wp.sq (Wp.rg (Ops.sg 5 5 ?_))))))
       obtain ⟨v279, ev279, h⟩ := bnd_some h
       refine Ops.on 6 (fun h0 e0 => (call_ok (E' := E) (h := h0) (by kernel_rfl) (Args.v (vI v278.fState) (eI v278.fState) (by kernel_rfl) (Args.v (vI 0) (eI 0) (by kernel_rfl) (Args.v (vI (w64 (a0.fStates - 1))) (eI (w64 (a0.fStates - 1))) (by kernel_rfl) Args.nil))) (ok99 m v278.fState 0 (w64 (a0.fStates - 1)) v279 ev279 n (by omega)))) ?_
       refine Ops.sg 2 8 ?_
       refine Ops.hv (fun KQ => ∀ (d282 d283 d284 d285 : D) (v286 v287 : Bool), f61_r8 m a0 v268 v278 v287 = some sx276 → KQ 13 ⟨Zs12 v268 a0.fFinals (a0.fFinals.length : Int) (decide (v268 < (a0.fFinals.length : Int))) (.vptr [(vI v278.fState), (vI v278.fWeight)]) (.v (.agg [(vI v278.fState), (vI v278.fWeight)])) v278.fState a0.fStates (w64 (a0.fStates - 1)) v279 v286 (d282::d283::d284::d285::(dB v287)::q28 []), [(b61_0 a0), b61_1, (.cells [(dI v278.fState), (dI v278.fWeight)])]⟩) ?_ fun J61j288 => ?_
       ·intro d282 d283 d284 d285 v286 v287 h
        unfold f61_r8 at h
        refine Ops.dn (seqQ.n ?_)
        refine Wp.cd h [1, 2, 5, 6, 78, 79, 80] 3 (fun h => ?_) (fun h => ?_)
        ·refine Wp.sq (Wp.rg (Ops.sg 2 2 ?_))
         refine Ops.on 3 (fun h0 e0 => (len_r (T := T) h0 30 135 .plain e134 a0.fArcs (by kernel_rfl))) ?_
         refine Ops.sg 2 5 ?_
         obtain ⟨v289, ev289, h⟩ := bnd_some h
         refine Ops.on 6 (fun h0 e0 => (call_ok (E' := E) (h := h0) (by kernel_rfl) (Args.v (vI 3) (eI 3) (by kernel_rfl) (Args.v (vI (w64 ((a0.fArcs.length : Int) + v268))) (eI (w64 ((a0.fArcs.length : Int) + v268))) (by kernel_rfl) Args.nil)) (ok100 m 3 (w64 ((a0.fArcs.length : Int) + v268)) v289 ev289 n (by omega)))) ?_
         refine Ops.sg 1 7 (Ops.dn (seqQ.n (Wp.rt (sqQ.r (seqQ.r (blkQ.r (seqQ.r ?_)))))))
         cases h
         refine lpQ.r (blkQ.r ?_)
         exact hrx273 _ hsx277 _ (RetOk.forget k61_1 (by kernel_rfl) (RetOk.mk' (.v (.agg [(vI v289.fCode), (vI v289.fIndex)])) (by kernel_rfl) (by kernel_rfl)))
        ·refine Wp.sk (sqQ.n' (seqQ.n (Wp.sq (Wp.rg (Ops.sg 3 3 ?_)))))
         refine Ops.hv (fun KQ => ∀ (d292 d293 d294 d295 d296 d297 d298 d299 d300 d301 : D) (v302 v303 : Bool), f61_r7 m a0 v268 v303 = some sx276 → KQ 14 ⟨Zs12 v268 a0.fFinals (a0.fFinals.length : Int) (decide (v268 < (a0.fFinals.length : Int))) (.vptr [(vI v278.fState), (vI v278.fWeight)]) (.v (.agg [(vI v278.fState), (vI v278.fWeight)])) v278.fState a0.fStates (w64 (a0.fStates - 1)) v279 v286 (d282::d283::d284::d285::(dB v287)::q6 ((dI v268)::(dB v302)::(dB v302)::d292::d293::d294::d295::d296::d297::d298::d299::d300::d301::(dB v303)::q8 [])), [(b61_0 a0), b61_1, (.cells [(dI v278.fState), (dI v278.fWeight)])]⟩) ?_ fun J61j304 => ?_
         ·intro d292 d293 d294 d295 d296 d297 d298 d299 d300 d301 v302 v303 h
          unfold f61_r7 at h
          refine Ops.dn (seqQ.n ?_)
          refine Wp.cd h k61_1 3 (fun h => ?_) (fun h => ?_)
          ·refine Wp.sq (Wp.rg (Ops.sg 2 2 ?_))
           refine Ops.on 3 (fun h0 e0 => (len_r (T := T) h0 30 135 .plain e134 a0.fArcs (by kernel_rfl))) ?_
           refine Ops.sg 2 5 ?_
           obtain ⟨v305, ev305, h⟩ := bnd_some h
           refine Ops.on 6 (fun h0 e0 => (call_ok (E' := E) (h := h0) (by kernel_rfl) (Args.v (vI 13) (eI 13) (by kernel_rfl) (Args.v (vI (w64 ((a0.fArcs.length : Int) + v268))) (eI (w64 ((a0.fArcs.length : Int) + v268))) (by kernel_rfl) Args.nil)) (ok100 m 13 (w64 ((a0.fArcs.length : Int) + v268)) v305 ev305 n (by omega)))) ?_
           refine Ops.sg 1 7 (Ops.dn (seqQ.n (Wp.rt (sqQ.r (blkQ.r (seqQ.r ?_))))))
           cases h
           refine lpQ.r (blkQ.r ?_)
           exact hrx273 _ hsx277 _ (RetOk.forget k61_1 (by kernel_rfl) (RetOk.mk' (.v (.agg [(vI v305.fCode), (vI v305.fIndex)])) (by kernel_rfl) (by kernel_rfl)))
          ·refine Wp.sk (sqQ.n' (blkQ.n' (seqQ.n (Wp.rg (Ops.sg 2 2 (Ops.dn (lpQ.m ⟨Zs16 (q40 (q35 ((dP e136 a0.fFinals)::(dI (a0.fFinals.length : Int))::(dI (w64 (v268 + 1)))::q40 (q5 [])))), [(b61_0 a0), b61_1]⟩ ?_)))))))
           cases h
           exact ihx272 (w64 (v268 + 1))  _ hsx277 _ (by omega) hrx273 hxx274
         obtain ⟨v303, ev303, h⟩ := bnd_some h
         refine Ops.hv (fun KQ => ∀ v290 : Bool, (cnd v290 (bnd (idx a0.fFinals (w64 (v268 - 1))) fun v306 => some (decide (v306.fState ≥ v278.fState))) (some false)) = some v303 → KQ 3 ⟨Zs12 v268 a0.fFinals (a0.fFinals.length : Int) (decide (v268 < (a0.fFinals.length : Int))) (.vptr [(vI v278.fState), (vI v278.fWeight)]) (.v (.agg [(vI v278.fState), (vI v278.fWeight)])) v278.fState a0.fStates (w64 (a0.fStates - 1)) v279 v286 (d282::d283::d284::d285::(dB v287)::q6 ((dI v268)::(dB v290)::(dB v290)::q19 [])), [(b61_0 a0), b61_1, (.cells [(dI v278.fState), (dI v278.fWeight)])]⟩) ?_ fun G61g291 => Ops.sx (G61g291 (decide (v268 > 0)) ev303)
         intro v290 ev303
         cases v290
         ·have ev303 := cnd_f ev303
          refine Ops.sg 11 14 ?_
          exact Ops.sx (J61j304 U U U U U U U U U U false false (some_sub (fun v303 => f61_r7 m a0 v268 v303 = some sx276) ev303 h))
         ·have ev303 := cnd_t ev303
          refine Ops.sg 4 7 ?_
          obtain ⟨v306, ev306, ev303⟩ := bnd_some ev303
          refine Ops.on 8 (fun h0 e0 => (ix_r (T := T) h0 31 137 2 .plain e136 a0.fFinals (w64 (v268 - 1)) v306 ev306 (by kernel_rfl) (by kernel_rfl) (fun _ => rfl))) ?_
          refine Ops.sg 6 14 ?_
          exact Ops.sx (J61j304 (.ptr 0 2) (dP e136 a0.fFinals) (dI v268) (dI (w64 (v268 - 1))) ((.vptr [(vI v306.fState), (vI v306.fWeight)])) ((.vptr [(vI v306.fState), (vI v306.fWeight)])) (dI v306.fState) (.ptr 2 0) (dI v278.fState) (dB (decide (v306.fState ≥ v278.fState))) true (decide (v306.fState ≥ v278.fState)) (some_sub (fun v303 => f61_r7 m a0 v268 v303 = some sx276) ev303 h))
       obtain ⟨v287, ev287, h⟩ := bnd_some h
       refine Ops.hv (fun KQ => ∀ v280 : Bool, (cnd v280 (some true) (bnd (f99 m v278.fWeight 0 1000000) fun v307 => some (!v307))) = some v287 → KQ 8 ⟨Zs12 v268 a0.fFinals (a0.fFinals.length : Int) (decide (v268 < (a0.fFinals.length : Int))) (.vptr [(vI v278.fState), (vI v278.fWeight)]) (.v (.agg [(vI v278.fState), (vI v278.fWeight)])) v278.fState a0.fStates (w64 (a0.fStates - 1)) v279 v280 (q33 []), [(b61_0 a0), b61_1, (.cells [(dI v278.fState), (dI v278.fWeight)])]⟩) ?_ fun G61g281 => Ops.sx (G61g281 (!v279) ev287)
       intro v280 ev287
       cases v280
       ·have ev287 := cnd_f ev287
        refine Ops.sg 2 10 ?_
        obtain ⟨v307, ev307, ev287⟩ := bnd_some ev287
        refine Ops.on 11 (fun h0 e0 => (call_ok (E' := E) (h := h0) (by kernel_rfl) (Args.v (vI v278.fWeight) (eI v278.fWeight) (by kernel_rfl) (Args.v (vI 0) (eI 0) (by kernel_rfl) (Args.v (vI 1000000) (eI 1000000) (by kernel_rfl) Args.nil))) (ok99 m v278.fWeight 0 1000000 v307 ev307 n (by omega)))) ?_
        refine Ops.sg 2 13 ?_
        exact Ops.sx (J61j288 (.ptr 2 1) (dI v278.fWeight) (dB v307) (dB (!v307)) false (!v307) (some_sub (fun v287 => f61_r8 m a0 v268 v278 v287 = some sx276) ev287 h))
       ·have ev287 := cnd_t ev287
        refine Ops.sg 5 13 ?_
        exact Ops.sx (J61j288 U U U U true true (some_sub (fun v287 => f61_r8 m a0 v268 v278 v287 = some sx276) ev287 h))
      ·refine Wp.ex 2 (sqQ.x (seqQ.x ?_))
       cases h
       refine lpQ.x (blkQ.w ⟨Zs16 (q40 (q35 ((dP e136 a0.fFinals)::(dI (a0.fFinals.length : Int))::(dI v268)::q40 (q5 [])))), [(b61_0 a0), b61_1]⟩ ?_)
       exact hxx274 v268  hsx277
    refine Wp.loop' k61_1 2 (by kernel_rfl) ⟨Zs16 (q40 (q35 ((dP e136 a0.fFinals)::(dI (a0.fFinals.length : Int))::(dI 0)::q40 (q5 [])))), [(b61_0 a0), b61_1]⟩ (by kernel_rfl) ?_
    rcases brk_some h with ⟨r310, er310, h⟩ | ⟨y309, ey309, h⟩
    ·refine hLx308 _ 0  _ er310 n (by omega) (fun r er σ hσ => ?_) (fun y  ey => by cases ey)
     cases er
     refine seqQ.r ?_
     exact fnQ.r' (X61 n) (fun z => (e26 z)) h hσ
    ·refine hLx308 _ 0  _ ey309 n (by omega) (fun r er => by cases er) (fun y  ey => ?_)
     cases ey
     refine seqQ.n (Wp.sq (Wp.rg (Ops.sg 2 2 (Ops.dn (seqQ.n (Wp.rt ?_))))))
     exact fnQ.r' (X61 n) (fun z => (e26 z)) h (RetOk.mk' (.v (.agg [(vI 0), (vI 0)])) (by kernel_rfl) (by kernel_rfl))
noncomputable def f28_r1 (m : Nat) (v9 : Bool) : Option (S32 × S26) :=
 cnd v9
 (some (((⟨0, [], []⟩ : S32), (⟨0, 0⟩ : S26))))
 (none)
noncomputable def f28 (m : Nat) (a0 a1 : S32) : Option (S32 × S26) :=
 bnd (f61 m a0) fun v1 =>
 cnd (!((v1.fCode == 0) && ((v1.fIndex == 0) && true)))
 (some (((⟨0, [], []⟩ : S32), v1)))
 (bnd (f61 m a1) fun v2 =>
 cnd (!((v2.fCode == 0) && ((v2.fIndex == 0) && true)))
 (some (((⟨0, [], []⟩ : S32), v2)))
 (f28_r1 m ((a0.fStates == 0) || (a1.fStates == 0))))
noncomputable abbrev X28 (n : Nat) : Cx := cxOf Proofs.Tryz.prog E 28 n
noncomputable abbrev b28_0 (w0 : S32) : AObj := .cells [(dI w0.fStates), (dP e134 w0.fArcs), (dP e136 w0.fFinals)]
theorem ok28 (m : Nat) (a0 a1 : S32) (o : (S32 × S26)) (h : f28 m a0 a1 = some o) (n : Nat) (hn : m + 5 ≤ n) : Fn Proofs.Tryz.prog E n 28 [.v (e32 a0), .v (e32 a1)] (.tuple [e32 o.1, e26 o.2]) := by
 obtain ⟨n, rfl⟩ : ∃ q, n = q + 1 := ⟨n - 1, by omega⟩
 unfold f28 at h
 refine Fn.of (by kernel_rfl) (by kernel_rfl) (by kernel_rfl) ⟨(.v (.agg [(vI a0.fStates), (vP e134 a0.fArcs), (vP e136 a0.fFinals)]))::(.v (.agg [(vI a1.fStates), (vP e134 a1.fArcs), (vP e136 a1.fFinals)]))::u40 (u40 (u40 (u40 (u27 [])))), []⟩ (by kernel_rfl) (Wp.sq (Wp.rg (Ops.sg 4 4 (Ops.dn (seqQ.n (Wp.sq (Wp.sq (Wp.rg (Ops.sg 1 1 ?_)))))))))
 obtain ⟨v1, ev1, h⟩ := bnd_some h
 refine Ops.on 2 (fun h0 e0 => (call_ok (E' := E) (h := h0) (by kernel_rfl) (Args.v (.agg [(vI a0.fStates), (vP e134 a0.fArcs), (vP e136 a0.fFinals)]) (e32 a0) (by kernel_rfl) Args.nil) (ok61 m a0 v1 ev1 n (by omega)))) ?_
 refine Ops.sg 2 4 (Ops.dn (seqQ.n (Wp.sq (Wp.rg (Ops.sg 3 3 (Ops.dn (seqQ.n ?_)))))))
 refine Wp.cd h [2, 3, 4, 5] 5 (fun h => ?_) (fun h => ?_)
 ·refine Wp.sq (Wp.regionF (by kernel_rfl) (Ops.sg 4 4 (Ops.dn (seqQ.n (Wp.rt (sqQ.r (seqQ.r ?_)))))))
  exact fnQ.r' (X28 n) (fun z => (.tuple [e32 z.1, e26 z.2])) h (RetOk.mk' (.v (.tuple [(.agg [(vI 0), (.sl .nil (List.map e134 [])), (.sl .nil (List.map e136 []))]), (.agg [(vI v1.fCode), (vI v1.fIndex)])])) (by kernel_rfl) (by kernel_rfl))
 ·refine Wp.sk (sqQ.n' (seqQ.n (Wp.sq (Wp.sq (Wp.rg (Ops.sg 1 1 ?_))))))
  obtain ⟨v2, ev2, h⟩ := bnd_some h
  refine Ops.on 2 (fun h0 e0 => (call_ok (E' := E) (h := h0) (by kernel_rfl) (Args.v (.agg [(vI a1.fStates), (vP e134 a1.fArcs), (vP e136 a1.fFinals)]) (e32 a1) (by kernel_rfl) Args.nil) (ok61 m a1 v2 ev2 n (by omega)))) ?_
  refine Ops.sg 2 4 (Ops.dn (seqQ.n (Wp.sq (Wp.rg (Ops.sg 3 3 (Ops.dn (seqQ.n ?_)))))))
  refine Wp.cd h [2, 3, 4, 5] 6 (fun h => ?_) (fun h => ?_)
  ·refine Wp.sq (Wp.regionF (by kernel_rfl) (Ops.sg 4 4 (Ops.dn (seqQ.n (Wp.rt (sqQ.r (seqQ.r ?_)))))))
   exact fnQ.r' (X28 n) (fun z => (.tuple [e32 z.1, e26 z.2])) h (RetOk.mk' (.v (.tuple [(.agg [(vI 0), (.sl .nil (List.map e134 [])), (.sl .nil (List.map e136 []))]), (.agg [(vI v2.fCode), (vI v2.fIndex)])])) (by kernel_rfl) (by kernel_rfl))
  ·refine Wp.sk (sqQ.n' (seqQ.n (Wp.sq (Wp.sq (Wp.rg (Ops.sg 4 4 ?_))))))
   refine Ops.hv (fun KQ => ∀ (d5 d6 d7 : D) (v8 v9 : Bool), f28_r1 m v9 = some o → KQ 8 ⟨Zs9 (.v (.agg [(vI a0.fStates), (vP e134 a0.fArcs), (vP e136 a0.fFinals)])) (.v (.agg [(vI a1.fStates), (vP e134 a1.fArcs), (vP e136 a1.fFinals)])) (.v (.agg [(vI v1.fCode), (vI v1.fIndex)])) (.v (.agg [(vI 0), (vI 0)])) (!((v1.fCode == 0) && ((v1.fIndex == 0) && true))) (.v (.agg [(vI v2.fCode), (vI v2.fIndex)])) (!((v2.fCode == 0) && ((v2.fIndex == 0) && true))) a0.fStates v8 (d5::d6::d7::(dB v9)::u40 (u40 (u40 (u20 [])))), [(b28_0 a0), (b28_0 a1), (.cells [(dI 0), (.v (.sl .nil (List.map e134 []))), (.v (.sl .nil (List.map e136 [])))]), (.cells [(dI 0), (dI 0)]), (.cells [(dI v1.fCode), (dI v1.fIndex)]), (.cells [(dI v2.fCode), (dI v2.fIndex)])]⟩) ?_ fun J28j10 => ?_
   ·intro d5 d6 d7 v8 v9 h
    unfold f28_r1 at h
    refine Ops.dn (seqQ.n ?_)
    refine Wp.cd h [2, 3, 4, 5] 6 (fun h => ?_) (fun h => ?_)
    ·refine Wp.sq (Wp.rg (Ops.sg 4 4 (Ops.dn (seqQ.n (Wp.rt (sqQ.r (seqQ.r ?_)))))))
     exact fnQ.r' (X28 n) (fun z => (.tuple [e32 z.1, e26 z.2])) h (RetOk.mk' (.v (.tuple [(.agg [(vI 0), (.sl .nil (List.map e134 [])), (.sl .nil (List.map e136 []))]), (.agg [(vI 0), (vI 0)])])) (by kernel_rfl) (by kernel_rfl))
    ·refine Wp.sk (sqQ.n' (seqQ.n (Wp.sq ?_)))
     cases h
   refine Ops.hv (fun KQ => ∀ v3 : Bool, f28_r1 m (v3 || (a1.fStates == 0)) = some o → KQ 4 ⟨Zs9 (.v (.agg [(vI a0.fStates), (vP e134 a0.fArcs), (vP e136 a0.fFinals)])) (.v (.agg [(vI a1.fStates), (vP e134 a1.fArcs), (vP e136 a1.fFinals)])) (.v (.agg [(vI v1.fCode), (vI v1.fIndex)])) (.v (.agg [(vI 0), (vI 0)])) (!((v1.fCode == 0) && ((v1.fIndex == 0) && true))) (.v (.agg [(vI v2.fCode), (vI v2.fIndex)])) (!((v2.fCode == 0) && ((v2.fIndex == 0) && true))) a0.fStates v3 (u40 (u40 (u40 (u24 [])))), [(b28_0 a0), (b28_0 a1), (.cells [(dI 0), (.v (.sl .nil (List.map e134 []))), (.v (.sl .nil (List.map e136 [])))]), (.cells [(dI 0), (dI 0)]), (.cells [(dI v1.fCode), (dI v1.fIndex)]), (.cells [(dI v2.fCode), (dI v2.fIndex)])]⟩) ?_ fun G28g4 => Ops.sx (G28g4 (a0.fStates == 0) h)
   intro v3 h
   cases v3
   ·refine Ops.sg 4 8 ?_
    exact Ops.sx (J28j10 (.ptr 1 0) (dI a1.fStates) (dB (a1.fStates == 0)) false (a1.fStates == 0) h)
   ·refine Ops.sg 4 8 ?_
    exact Ops.sx (J28j10 U U U true true h)
noncomputable def f111_B1 (m : Nat) (a0 : S32) (v8 : (List Int)) (v9 : Int) : Option (Stp (S32 × S26) ((List Int) × Int)) :=
 cnd (decide (v9 < (a0.fFinals.length : Int)))
 (bnd (idx a0.fFinals v9) fun v19 =>
 bnd (app 8 v8 [v19.fState]) fun v20 =>
 some (.nxt (v20, w64 (v9 + 1))))
 (some (.brk (v8, v9)))
noncomputable def f111 (m : Nat) (a0 : S32) : Option (S32 × S26) :=
 bnd (f61 m a0) fun v1 =>
 cnd (!((v1.fCode == 0) && ((v1.fIndex == 0) && true)))
 (some (((⟨0, [], []⟩ : S32), v1)))
 (cnd (a0.fStates == 0)
 (some (((⟨0, [], []⟩ : S32), (⟨0, 0⟩ : S26))))
 (brk (iter (fun (y : (List Int) × Int) => f111_B1 m a0 y.1 y.2) m ([], 0)) some fun y22 =>
 none))
noncomputable abbrev X111 (n : Nat) : Cx := cxOf Proofs.Tryz.prog E 111 n
noncomputable def C111 : Code := bodyOf Proofs.Tryz.prog 111
noncomputable abbrev b111_0 (w0 : S32) : AObj := .cells [(dI w0.fStates), (dP e134 w0.fArcs), (dP e136 w0.fFinals)]
noncomputable abbrev b111_1 : AObj := .cells [(dI 0), (.v (.sl .nil (List.map e134 []))), (.v (.sl .nil (List.map e136 [])))]
noncomputable abbrev b111_2 (w0 : S26) : AObj := .cells [(dI w0.fCode), (dI w0.fIndex)]
theorem ok111 (m : Nat) (a0 : S32) (o : (S32 × S26)) (h : f111 m a0 = some o) (n : Nat) (hn : m + 5 ≤ n) : Fn Proofs.Tryz.prog E n 111 [.v (e32 a0)] (.tuple [e32 o.1, e26 o.2]) := by
 obtain ⟨n, rfl⟩ : ∃ q, n = q + 1 := ⟨n - 1, by omega⟩
 unfold f111 at h
 refine Fn.of (by kernel_rfl) (by kernel_rfl) (by kernel_rfl) ⟨(.v (.agg [(vI a0.fStates), (vP e134 a0.fArcs), (vP e136 a0.fFinals)]))::u40 (u40 (u40 (u33 []))), []⟩ (by kernel_rfl) (Wp.sq (Wp.rg (Ops.sg 3 3 (Ops.dn (seqQ.n (Wp.sq (Wp.sq (Wp.rg (Ops.sg 1 1 ?_)))))))))
 obtain ⟨v1, ev1, h⟩ := bnd_some h
 refine Ops.on 2 (fun h0 e0 => (call_ok (E' := E) (h := h0) (by kernel_rfl) (Args.v (.agg [(vI a0.fStates), (vP e134 a0.fArcs), (vP e136 a0.fFinals)]) (e32 a0) (by kernel_rfl) Args.nil) (ok61 m a0 v1 ev1 n (by omega)))) ?_
 refine Ops.sg 2 4 (Ops.dn (seqQ.n (Wp.sq (Wp.rg (Ops.sg 3 3 (Ops.dn (seqQ.n ?_)))))))
 refine Wp.cd h [1, 2, 3] 4 (fun h => ?_) (fun h => ?_)
 ·refine Wp.sq (Wp.regionF (by kernel_rfl) (Ops.sg 4 4 (Ops.dn (seqQ.n (Wp.rt (sqQ.r (seqQ.r ?_)))))))
  exact fnQ.r' (X111 n) (fun z => (.tuple [e32 z.1, e26 z.2])) h (RetOk.mk' (.v (.tuple [(.agg [(vI 0), (.sl .nil (List.map e134 [])), (.sl .nil (List.map e136 []))]), (.agg [(vI v1.fCode), (vI v1.fIndex)])])) (by kernel_rfl) (by kernel_rfl))
 ·refine Wp.sk (sqQ.n' (seqQ.n (Wp.sq (Wp.sq (Wp.rg (Ops.sg 3 3 (Ops.dn (seqQ.n ?_))))))))
  refine Wp.cd h [1, 2, 3] 5 (fun h => ?_) (fun h => ?_)
  ·refine Wp.sq (Wp.rg (Ops.sg 4 4 (Ops.dn (seqQ.n (Wp.rt (sqQ.r (seqQ.r ?_)))))))
   exact fnQ.r' (X111 n) (fun z => (.tuple [e32 z.1, e26 z.2])) h (RetOk.mk' (.v (.tuple [(.agg [(vI 0), (.sl .nil (List.map e134 [])), (.sl .nil (List.map e136 []))]), (.agg [(vI 0), (vI 0)])])) (by kernel_rfl) (by kernel_rfl))
  ·refine Wp.sk (sqQ.n' (seqQ.n (Wp.sq (Wp.rg (Ops.sg 1 1 (Ops.dn (seqQ.n (Wp.sq (Wp.sq (Wp.rg (Ops.sg 2 2 ?_)))))))))))
   refine Ops.on 3 (fun h0 e0 => (len_r (T := T) h0 31 137 .plain e136 a0.fFinals (by kernel_rfl))) ?_
   refine Ops.sg 1 4 (Ops.dn (seqQ.n (Wp.bk 0 [1, 2, 3, 5] 6 ?_)))
   have hLx21 : ∀ (kx11 : Nat) (v8 : (List Int)) (v9 : Int)  (ox10 : (S32 × S26) ⊕ ((List Int) × Int)), iter (fun (y : (List Int) × Int) => f111_B1 m a0 y.1 y.2) kx11 (v8, v9) = some ox10 → ∀ nx12, kx11 ≤ nx12 → (∀ r, ox10 = .inl r → ∀ σ, RetOk (X111 n) (resOf Proofs.Tryz.prog 111) (.tuple [e32 r.1, e26 r.2]) σ → (seqQ (X111 n) (cR (cR (cR (cR (cR C111))))) (fnQ (X111 n).E.T (resOf Proofs.Tryz.prog 111) (.tuple [e32 o.1, e26 o.2]))) .ret σ) → (∀ (y : (List Int) × Int) , ox10 = .inr y → (seqQ (X111 n) (cR (cR (cR (cR (cR C111))))) (fnQ (X111 n).E.T (resOf Proofs.Tryz.prog 111) (.tuple [e32 o.1, e26 o.2]))) .normal ⟨Zs16 ((.ptr 2 0)::q1 ((appD 6 (List.map eI y.1))::q40 (q40 (q40 (q28 []))))), [(b111_0 a0), b111_1, (.cells [(dI 0), (dI 0)]), (b111_2 v1), .dead, .dead, (appO 1 (List.map eI y.1))]⟩) → Lp (X111 n) [1, 2, 3, 5, 30, 31, 32] 6 (cL (cL (cR (cL (cR (cR (cR (cR C111)))))))) nx12 ⟨Zs16 ((.ptr 2 0)::q1 ((appD 6 (List.map eI v8))::q24 ((dP e136 a0.fFinals)::(dI (a0.fFinals.length : Int))::(dI v9)::q40 (q40 (q40 (q1 [])))))), [(b111_0 a0), b111_1, (.cells [(dI 0), (dI 0)]), (b111_2 v1), .dead, .dead, (appO 1 (List.map eI v8))]⟩ (blkQ (X111 n) 0 [1, 2, 3, 5] 6 (seqQ (X111 n) (cR (cR (cR (cR (cR C111))))) (fnQ (X111 n).E.T (resOf Proofs.Tryz.prog 111) (.tuple [e32 o.1, e26 o.2])))) := by
    intro kx11
    induction kx11 with
    | zero => intro v8 v9  ox10 h; exact (iter_zero h).elim
    | succ kx11 ihx13 =>
     intro v8 v9  ox10 h nx12 hnx16 hrx14 hxx15
     obtain ⟨nx12, rfl⟩ : ∃ q, nx12 = q + 1 := ⟨nx12 - 1, by omega⟩
     obtain ⟨sx17, h, hsx18⟩ := iter_some h
     have h : f111_B1 m a0 v8 v9 = some sx17 := h
     unfold f111_B1 at h
     refine Lp.succ (Wp.sq (Wp.rg (Ops.sg 1 1 (Ops.dn (seqQ.n (Wp.sq ?_))))))
     refine Wp.cd h [1, 2, 3, 5, 30, 31, 32] 7 (fun h => ?_) (fun h => ?_)
     ·refine Wp.sk (sqQ.n ⟨Zs16 ((.ptr 2 0)::q1 ((appD 7 (List.map eI v8))::q24 ((dP e136 a0.fFinals)::(dI (a0.fFinals.length : Int))::(dI v9)::q40 (q40 (q40 (q1 [])))))), [(b111_0 a0), b111_1, (.cells [(dI 0), (dI 0)]), (b111_2 v1), .dead, .dead, .dead, (appO 1 (List.map eI v8))]⟩ (by generalize v8 = z0; cases z0 <;> kernel_rfl) (seqQ.n (Wp.sq (Wp.bk 1 [1, 2, 3, 5, 30, 31, 32] 8 (Wp.sq (Wp.rg ?_))))))
      obtain ⟨v19, ev19, h⟩ := bnd_some h
      refine Ops.on 1 (fun h0 e0 => (ix_r (T := T) h0 31 137 2 .plain e136 a0.fFinals v9 v19 ev19 (by kernel_rfl) (by kernel_rfl) (fun _ => rfl))) ?_
      refine Ops.sg 3 4 (Ops.dn (seqQ.n (Wp.rg (Ops.sg 4 4 ?_))))
      obtain ⟨v20, ev20, h⟩ := bnd_some h
      refine Ops.on 5 (fun h0 e0 => (app_r (T := T) (g := .nil) h0 97 3 7 1 ti3 .nonfull eI v8 [v19.fState] v20 ev20 (by kernel_rfl) (by kernel_rfl) (by kernel_rfl) (by kernel_rfl) (fun _ => rfl) (hq_of e0 (by kernel_rfl)))) ?_
      refine Ops.sg 1 6 (Ops.dn (blkQ.n ⟨Zs16 ((.ptr 2 0)::q1 ((appD 8 (List.map eI v20))::q24 ((dP e136 a0.fFinals)::(dI (a0.fFinals.length : Int))::(dI v9)::q40 (q40 (q40 (q1 [])))))), [(b111_0 a0), b111_1, (.cells [(dI 0), (dI 0)]), (b111_2 v1), .dead, .dead, .dead, .dead, (appO 1 (List.map eI v20))]⟩ (by generalize v20 = z0; cases z0 <;> kernel_rfl) (seqQ.n (Wp.rg (Ops.sg 2 2 (Ops.dn (lpQ.n ⟨Zs16 ((.ptr 2 0)::q1 ((appD 6 (List.map eI v20))::q24 ((dP e136 a0.fFinals)::(dI (a0.fFinals.length : Int))::(dI (w64 (v9 + 1)))::q40 (q40 (q40 (q1 [])))))), [(b111_0 a0), b111_1, (.cells [(dI 0), (dI 0)]), (b111_2 v1), .dead, .dead, (appO 1 (List.map eI v20))]⟩ (by generalize v20 = z0; cases z0 <;> kernel_rfl) ?_)))))))
      cases h
      exact ihx13 v20 (w64 (v9 + 1))  _ hsx18 _ (by omega) hrx14 hxx15
     ·refine Wp.ex 0 (sqQ.x (seqQ.x ?_))
      cases h
      refine lpQ.x (blkQ.x ⟨Zs16 ((.ptr 2 0)::q1 ((appD 6 (List.map eI v8))::q40 (q40 (q40 (q28 []))))), [(b111_0 a0), b111_1, (.cells [(dI 0), (dI 0)]), (b111_2 v1), .dead, .dead, (appO 1 (List.map eI v8))]⟩ (by generalize v8 = z0; cases z0 <;> kernel_rfl) ?_)
      exact hxx15 (v8, v9)  hsx18
   refine Wp.loop' [1, 2, 3, 5, 30, 31, 32] 6 (by kernel_rfl) ⟨Zs16 ((.ptr 2 0)::q1 ((appD 6 (List.map eI []))::q24 ((dP e136 a0.fFinals)::(dI (a0.fFinals.length : Int))::(dI 0)::q40 (q40 (q40 (q1 [])))))), [(b111_0 a0), b111_1, (.cells [(dI 0), (dI 0)]), (b111_2 v1), .dead, .dead, .dead]⟩ (by kernel_rfl) ?_
   rcases brk_some h with ⟨r23, er23, h⟩ | ⟨y22, ey22, h⟩
   ·refine hLx21 _ [] 0  _ er23 n (by omega) (fun r er σ hσ => ?_) (fun y  ey => by cases ey)
    cases er
    refine seqQ.r ?_
    exact fnQ.r' (X111 n) (fun z => (.tuple [e32 z.1, e26 z.2])) h hσ
   ·refine hLx21 _ [] 0  _ ey22 n (by omega) (fun r er => by cases er) (fun y  ey => ?_)
    cases ey
    refine seqQ.n (Wp.sq ?_)
    cases h
noncomputable def f112 (m : Nat) (a0 a1 : Int) : Option S26 :=
 some ((⟨a0, a1⟩ : S26))
noncomputable abbrev X112 (n : Nat) : Cx := cxOf Proofs.Tryz.prog E 112 n
theorem ok112 (m : Nat) (a0 a1 : Int) (o : S26) (h : f112 m a0 a1 = some o) (n : Nat) (hn : m + 1 ≤ n) : Fn Proofs.Tryz.prog E n 112 [.v (eI a0), .v (eI a1)] (e26 o) := by
 obtain ⟨n, rfl⟩ : ∃ q, n = q + 1 := ⟨n - 1, by omega⟩
 unfold f112 at h
 refine Fn.of (by kernel_rfl) (by kernel_rfl) (by kernel_rfl) ⟨(dI a0)::(dI a1)::u6 [], []⟩ (by kernel_rfl) (Wp.sq (Wp.rg (Ops.sg 1 1 (Ops.dn (seqQ.n (Wp.sq (Wp.rg (Ops.sg 4 4 (Ops.dn (seqQ.n (Wp.rt ?_)))))))))))
 exact fnQ.r' (X112 n) (fun z => (e26 z)) h (RetOk.mk' (.v (.agg [(vI a0), (vI a1)])) (by kernel_rfl) (by kernel_rfl))
noncomputable def f71_r1 (m : Nat) (v1 : (S32 × S26)) (v7 : Bool) : Option ((List S108) × S26) :=
 cnd v7
 (bnd (f112 m 3 (-2)) fun v9 =>
 some (([], v9)))
 (cnd (v1.1.fStates == 0)
 (some (([], (⟨0, 0⟩ : S26))))
 (none))
noncomputable def f71 (m : Nat) (a0 : S32) (a1 : Int) : Option ((List S108) × S26) :=
 bnd (f111 m a0) fun v1 =>
 cnd (!((v1.2.fCode == 0) && ((v1.2.fIndex == 0) && true)))
 (some (([], v1.2)))
 (f71_r1 m v1 ((decide (a1 < 0)) || (decide (a1 > 300))))
noncomputable abbrev X71 (n : Nat) : Cx := cxOf Proofs.Tryz.prog E 71 n
theorem ok71 (m : Nat) (a0 : S32) (a1 : Int) (o : ((List S108) × S26)) (h : f71 m a0 a1 = some o) (n : Nat) (hn : m + 6 ≤ n) : Fn Proofs.Tryz.prog E n 71 [.v (e32 a0), .v (eI a1)] (.tuple [(eL e108) o.1, e26 o.2]) := by
 obtain ⟨n, rfl⟩ : ∃ q, n = q + 1 := ⟨n - 1, by omega⟩
 unfold f71 at h
 refine Fn.of (by kernel_rfl) (by kernel_rfl) (by kernel_rfl) ⟨(.v (.agg [(vI a0.fStates), (vP e134 a0.fArcs), (vP e136 a0.fFinals)]))::(dI a1)::u40 (u40 (u40 (u5 []))), []⟩ (by kernel_rfl) (Wp.sq (Wp.rg (Ops.sg 3 3 (Ops.dn (seqQ.n (Wp.sq (Wp.rg (Ops.sg 1 1 ?_))))))))
 obtain ⟨v1, ev1, h⟩ := bnd_some h
 refine Ops.on 2 (fun h0 e0 => (call_ok (E' := E) (h := h0) (by kernel_rfl) (Args.v (.agg [(vI a0.fStates), (vP e134 a0.fArcs), (vP e136 a0.fFinals)]) (e32 a0) (by kernel_rfl) Args.nil) (ok111 m a0 v1 ev1 n (by omega)))) ?_
 refine Ops.sg 6 8 (Ops.dn (seqQ.n (Wp.sq (Wp.sq (Wp.rg (Ops.sg 3 3 (Ops.dn (seqQ.n ?_))))))))
 refine Wp.cd h [1, 2, 4, 5] 3 (fun h => ?_) (fun h => ?_)
 ·refine Wp.sq (Wp.rg (Ops.sg 3 3 (Ops.dn (seqQ.n (Wp.rt (sqQ.r (seqQ.r ?_)))))))
  exact fnQ.r' (X71 n) (fun z => (.tuple [(eL e108) z.1, e26 z.2])) h (RetOk.mk' (.v (.tuple [(.sl .nil (List.map e108 [])), (.agg [(vI v1.2.fCode), (vI v1.2.fIndex)])])) (by kernel_rfl) (by kernel_rfl))
 ·refine Wp.sk (sqQ.n' (seqQ.n (Wp.sq (Wp.sq (Wp.rg (Ops.sg 3 3 ?_))))))
  refine Ops.hv (fun KQ => ∀ (d4 d5 : D) (v6 v7 : Bool), f71_r1 m v1 v7 = some o → KQ 6 ⟨q1 ((dI a1)::(.ptr 0 0)::q1 ((.v (.sl .nil (List.map e108 [])))::(.ptr 1 0)::q20 ((dI a1)::(dB v6)::(dB v6)::d4::d5::(dB v7)::q40 (q40 (q15 []))))), [(.cells [(dI v1.1.fStates), (dP e134 v1.1.fArcs), (dP e136 v1.1.fFinals)]), (.cells [(dI 0), (dI 0)]), (.cells [(dI v1.2.fCode), (dI v1.2.fIndex)]), .dead]⟩) ?_ fun J71j8 => ?_
  ·intro d4 d5 v6 v7 h
   unfold f71_r1 at h
   refine Ops.dn (seqQ.n ?_)
   refine Wp.cd h [1, 2, 4, 5] 4 (fun h => ?_) (fun h => ?_)
   ·refine Wp.sq (Wp.rg ?_)
    obtain ⟨v9, ev9, h⟩ := bnd_some h
    refine Ops.on 1 (fun h0 e0 => (call_ok (E' := E) (h := h0) (by kernel_rfl) (Args.v (vI 3) (eI 3) (by kernel_rfl) (Args.v (vI (-2)) (eI (-2)) (by kernel_rfl) Args.nil)) (ok112 m 3 (-2) v9 ev9 n (by omega)))) ?_
    refine Ops.sg 2 3 (Ops.dn (seqQ.n (Wp.rt (sqQ.r (seqQ.r ?_)))))
    exact fnQ.r' (X71 n) (fun z => (.tuple [(eL e108) z.1, e26 z.2])) h (RetOk.mk' (.v (.tuple [(.sl .nil (List.map e108 [])), (.agg [(vI v9.fCode), (vI v9.fIndex)])])) (by kernel_rfl) (by kernel_rfl))
   ·refine Wp.sk (sqQ.n' (seqQ.n (Wp.sq (Wp.sq (Wp.rg (Ops.sg 3 3 (Ops.dn (seqQ.n ?_))))))))
    refine Wp.cd h [1, 2, 4, 5] 5 (fun h => ?_) (fun h => ?_)
    ·refine Wp.sq (Wp.rg (Ops.sg 3 3 (Ops.dn (seqQ.n (Wp.rt (sqQ.r (seqQ.r ?_)))))))
     exact fnQ.r' (X71 n) (fun z => (.tuple [(eL e108) z.1, e26 z.2])) h (RetOk.mk' (.v (.tuple [(.sl .nil (List.map e108 [])), (.agg [(vI 0), (vI 0)])])) (by kernel_rfl) (by kernel_rfl))
    ·refine Wp.sk (sqQ.n' (seqQ.n (Wp.sq ?_)))
     cases h
  refine Ops.hv (fun KQ => ∀ v2 : Bool, f71_r1 m v1 (v2 || (decide (a1 > 300))) = some o → KQ 3 ⟨q1 ((dI a1)::(.ptr 0 0)::q1 ((.v (.sl .nil (List.map e108 [])))::(.ptr 1 0)::q20 ((dI a1)::(dB v2)::(dB v2)::q40 (q40 (q18 []))))), [(.cells [(dI v1.1.fStates), (dP e134 v1.1.fArcs), (dP e136 v1.1.fFinals)]), (.cells [(dI 0), (dI 0)]), (.cells [(dI v1.2.fCode), (dI v1.2.fIndex)]), .dead]⟩) ?_ fun G71g3 => Ops.sx (G71g3 (decide (a1 < 0)) h)
  intro v2 h
  cases v2
  ·refine Ops.sg 3 6 ?_
   exact Ops.sx (J71j8 (dI a1) (dB (decide (a1 > 300))) false (decide (a1 > 300)) h)
  ·refine Ops.sg 3 6 ?_
   exact Ops.sx (J71j8 U U true true h)
noncomputable def f29 (m : Nat) (a0 a1 : Int) : Option S26 :=
 some ((⟨a0, a1⟩ : S26))
noncomputable abbrev X29 (n : Nat) : Cx := cxOf Proofs.Tryz.prog E 29 n
theorem ok29 (m : Nat) (a0 a1 : Int) (o : S26) (h : f29 m a0 a1 = some o) (n : Nat) (hn : m + 1 ≤ n) : Fn Proofs.Tryz.prog E n 29 [.v (eI a0), .v (eI a1)] (e26 o) := by
 obtain ⟨n, rfl⟩ : ∃ q, n = q + 1 := ⟨n - 1, by omega⟩
 unfold f29 at h
 refine Fn.of (by kernel_rfl) (by kernel_rfl) (by kernel_rfl) ⟨(dI a0)::(dI a1)::u6 [], []⟩ (by kernel_rfl) (Wp.sq (Wp.rg (Ops.sg 1 1 (Ops.dn (seqQ.n (Wp.sq (Wp.rg (Ops.sg 4 4 (Ops.dn (seqQ.n (Wp.rt ?_)))))))))))
 exact fnQ.r' (X29 n) (fun z => (e26 z)) h (RetOk.mk' (.v (.agg [(vI a0), (vI a1)])) (by kernel_rfl) (by kernel_rfl))
noncomputable def f35_r1 (m : Nat) (v1 : ((List S108) × S26)) (v8 : Bool) : Option ((List S108) × S26) :=
 cnd v8
 (bnd (f29 m 17 (-1)) fun v10 =>
 some (([], v10)))
 (some ((v1.1, (⟨0, 0⟩ : S26))))
noncomputable def f35 (m : Nat) (a0 : S32) : Option ((List S108) × S26) :=
 bnd (f71 m a0 300) fun v1 =>
 f35_r1 m v1 ((!((v1.2.fCode == 0) && ((v1.2.fIndex == 0) && true))) || ((v1.1.length : Int) == 300))
noncomputable abbrev X35 (n : Nat) : Cx := cxOf Proofs.Tryz.prog E 35 n
theorem ok35 (m : Nat) (a0 : S32) (o : ((List S108) × S26)) (h : f35 m a0 = some o) (n : Nat) (hn : m + 7 ≤ n) : Fn Proofs.Tryz.prog E n 35 [.v (e32 a0)] (.tuple [(eL e108) o.1, e26 o.2]) := by
 obtain ⟨n, rfl⟩ : ∃ q, n = q + 1 := ⟨n - 1, by omega⟩
 unfold f35 at h
 refine Fn.of (by kernel_rfl) (by kernel_rfl) (by kernel_rfl) ⟨(.v (.agg [(vI a0.fStates), (vP e134 a0.fArcs), (vP e136 a0.fFinals)]))::u21 [], []⟩ (by kernel_rfl) (Wp.sq (Wp.rg (Ops.sg 3 3 (Ops.dn (seqQ.n (Wp.sq (Wp.rg (Ops.sg 1 1 ?_))))))))
 obtain ⟨v1, ev1, h⟩ := bnd_some h
 refine Ops.on 2 (fun h0 e0 => (call_ok (E' := E) (h := h0) (by kernel_rfl) (Args.v (.agg [(vI a0.fStates), (vP e134 a0.fArcs), (vP e136 a0.fFinals)]) (e32 a0) (by kernel_rfl) (Args.v (vI 300) (eI 300) (by kernel_rfl) Args.nil)) (ok71 m a0 300 v1 ev1 n (by omega)))) ?_
 refine Ops.sg 6 8 (Ops.dn (seqQ.n (Wp.sq (Wp.sq (Wp.rg (Ops.sg 4 4 ?_))))))
 refine Ops.hv (fun KQ => ∀ (d4 d5 d6 : D) (v7 v8 : Bool), f35_r1 m v1 v8 = some o → KQ 8 ⟨Zs14 (.v (.agg [(vI a0.fStates), (vP e134 a0.fArcs), (vP e136 a0.fFinals)])) (.v (.sl .nil (List.map e108 []))) v1.1 (.v (.tuple [(vP e108 v1.1), (.agg [(vI v1.2.fCode), (vI v1.2.fIndex)])])) (.v (.agg [(vI v1.2.fCode), (vI v1.2.fIndex)])) (.v (.agg [(vI 0), (vI 0)])) v7 (d4::d5::d6::(dB v8)::u3 []), [(.cells [(dI a0.fStates), (dP e134 a0.fArcs), (dP e136 a0.fFinals)]), (.cells [(dI 0), (dI 0)]), (.cells [(dI v1.2.fCode), (dI v1.2.fIndex)])]⟩) ?_ fun J35j9 => ?_
 ·intro d4 d5 d6 v7 v8 h
  unfold f35_r1 at h
  refine Ops.dn (seqQ.n ?_)
  refine Wp.cd h [2, 3, 4] 3 (fun h => ?_) (fun h => ?_)
  ·refine Wp.sq (Wp.rg ?_)
   obtain ⟨v10, ev10, h⟩ := bnd_some h
   refine Ops.on 1 (fun h0 e0 => (call_ok (E' := E) (h := h0) (by kernel_rfl) (Args.v (vI 17) (eI 17) (by kernel_rfl) (Args.v (vI (-1)) (eI (-1)) (by kernel_rfl) Args.nil)) (ok29 m 17 (-1) v10 ev10 n (by omega)))) ?_
   refine Ops.sg 2 3 (Ops.dn (seqQ.n (Wp.rt (sqQ.r (seqQ.r ?_)))))
   exact fnQ.r' (X35 n) (fun z => (.tuple [(eL e108) z.1, e26 z.2])) h (RetOk.mk' (.v (.tuple [(.sl .nil (List.map e108 [])), (.agg [(vI v10.fCode), (vI v10.fIndex)])])) (by kernel_rfl) (by kernel_rfl))
  ·refine Wp.sk (sqQ.n' (seqQ.n (Wp.sq (Wp.rg (Ops.sg 4 4 (Ops.dn (seqQ.n (Wp.rt ?_))))))))
   exact fnQ.r' (X35 n) (fun z => (.tuple [(eL e108) z.1, e26 z.2])) h (RetOk.mk' (.v (.tuple [(vP e108 v1.1), (.agg [(vI 0), (vI 0)])])) (by kernel_rfl) (by kernel_rfl))
 refine Ops.hv (fun KQ => ∀ v2 : Bool, f35_r1 m v1 (v2 || ((v1.1.length : Int) == 300)) = some o → KQ 4 ⟨Zs14 (.v (.agg [(vI a0.fStates), (vP e134 a0.fArcs), (vP e136 a0.fFinals)])) (.v (.sl .nil (List.map e108 []))) v1.1 (.v (.tuple [(vP e108 v1.1), (.agg [(vI v1.2.fCode), (vI v1.2.fIndex)])])) (.v (.agg [(vI v1.2.fCode), (vI v1.2.fIndex)])) (.v (.agg [(vI 0), (vI 0)])) v2 (u7 []), [(.cells [(dI a0.fStates), (dP e134 a0.fArcs), (dP e136 a0.fFinals)]), (.cells [(dI 0), (dI 0)]), (.cells [(dI v1.2.fCode), (dI v1.2.fIndex)])]⟩) ?_ fun G35g3 => Ops.sx (G35g3 (!((v1.2.fCode == 0) && ((v1.2.fIndex == 0) && true))) h)
 intro v2 h
 cases v2
 ·refine Ops.sg 1 5 ?_
  refine Ops.on 6 (fun h0 e0 => (len_r (T := T) h0 105 109 .plain e108 v1.1 (by kernel_rfl))) ?_
  refine Ops.sg 2 8 ?_
  exact Ops.sx (J35j9 (dP e108 v1.1) (dI (v1.1.length : Int)) (dB ((v1.1.length : Int) == 300)) false ((v1.1.length : Int) == 300) h)
 ·refine Ops.sg 4 8 ?_
  exact Ops.sx (J35j9 U U U true true h)
noncomputable def f80 (m : Nat) (a0 a1 : Int) : Option S26 :=
 some ((⟨a0, a1⟩ : S26))
noncomputable abbrev X80 (n : Nat) : Cx := cxOf Proofs.Tryz.prog E 80 n
theorem ok80 (m : Nat) (a0 a1 : Int) (o : S26) (h : f80 m a0 a1 = some o) (n : Nat) (hn : m + 1 ≤ n) : Fn Proofs.Tryz.prog E n 80 [.v (eI a0), .v (eI a1)] (e26 o) := by
 obtain ⟨n, rfl⟩ : ∃ q, n = q + 1 := ⟨n - 1, by omega⟩
 unfold f80 at h
 refine Fn.of (by kernel_rfl) (by kernel_rfl) (by kernel_rfl) ⟨(dI a0)::(dI a1)::u6 [], []⟩ (by kernel_rfl) (Wp.sq (Wp.rg (Ops.sg 1 1 (Ops.dn (seqQ.n (Wp.sq (Wp.rg (Ops.sg 4 4 (Ops.dn (seqQ.n (Wp.rt ?_)))))))))))
 exact fnQ.r' (X80 n) (fun z => (e26 z)) h (RetOk.mk' (.v (.agg [(vI a0), (vI a1)])) (by kernel_rfl) (by kernel_rfl))
noncomputable def f130_r1 (m : Nat) (v17 : Bool) : Option Bool :=
 some v17
noncomputable def f130_r2 (m : Nat) (a0 : Int) (v6 : Bool) : Option Bool :=
 f130_r1 m (v6 || ((decide (a0 > 57343)) && (decide (a0 ≤ 1114111))))
noncomputable def f130 (m : Nat) (a0 : Int) : Option Bool :=
 f130_r2 m a0 ((decide (a0 ≥ 0)) && (decide (a0 < 55296)))
noncomputable abbrev X130 (n : Nat) : Cx := cxOf Proofs.Tryz.prog E 130 n
theorem ok130 (m : Nat) (a0 : Int) (o : Bool) (h : f130 m a0 = some o) (n : Nat) (hn : m + 1 ≤ n) : Fn Proofs.Tryz.prog E n 130 [.v (eI a0)] (eB o) := by
 obtain ⟨n, rfl⟩ : ∃ q, n = q + 1 := ⟨n - 1, by omega⟩
 unfold f130 at h
 refine Fn.of (by kernel_rfl) (by kernel_rfl) (by kernel_rfl) ⟨(dI a0)::u16 [], []⟩ (by kernel_rfl) (Wp.sq (Wp.rg (Ops.sg 1 1 (Ops.dn (seqQ.n (Wp.sq (Wp.rg (Ops.sg 3 3 ?_))))))))
 refine Ops.hv (fun KQ => ∀ (d3 d4 : D) (v5 v6 : Bool), f130_r2 m a0 v6 = some o → KQ 6 ⟨Zs26 a0 v5 (d3::d4::(dB v6)::u8 []), []⟩) ?_ fun J130j7 => ?_
 ·intro d3 d4 v5 v6 h
  unfold f130_r2 at h
  refine Ops.sg 1 7 ?_
  refine Ops.hv (fun KQ => ∀ (d10 d11 d12 d13 d14 d15 : D) (v16 v17 : Bool), f130_r1 m v17 = some o → KQ 14 ⟨Zs26 a0 v5 (d3::d4::(dB v16)::(dB v16)::d10::d11::d12::d13::d14::d15::(dB v17)::[]), []⟩) ?_ fun J130j18 => ?_
  ·intro d10 d11 d12 d13 d14 d15 v16 v17 h
   unfold f130_r1 at h
   refine Ops.sg 1 15 (Ops.dn (seqQ.n (Wp.rt ?_)))
   exact fnQ.r' (X130 n) (fun z => (eB z)) h (RetOk.mk' (dB v17) (by kernel_rfl) (by kernel_rfl))
  refine Ops.hv (fun KQ => ∀ v8 : Bool, f130_r1 m (v8 || ((decide (a0 > 57343)) && (decide (a0 ≤ 1114111)))) = some o → KQ 7 ⟨Zs26 a0 v5 (d3::d4::(dB v8)::(dB v8)::u7 []), []⟩) ?_ fun G130g9 => Ops.sx (G130g9 v6 h)
  intro v8 h
  cases v8
  ·refine Ops.sg 3 10 ?_
   refine Ops.hv (fun KQ => ∀ v19 : Bool, (f130_r1 m (false || (v19 && (decide (a0 ≤ 1114111))))) = some o → KQ 10 ⟨Zs26 a0 v5 (d3::d4::(dB false)::(dB false)::(dI a0)::(dB v19)::(dB v19)::u4 []), []⟩) ?_ fun G130g20 => Ops.sx (G130g20 (decide (a0 > 57343)) h)
   intro v19 h
   cases v19
   ·refine Ops.sg 4 14 ?_
    exact Ops.sx (J130j18 (dI a0) (dB false) (dB false) U U (dB false) false false h)
   ·refine Ops.sg 4 14 ?_
    exact Ops.sx (J130j18 (dI a0) (dB true) (dB true) (dI a0) (dB (decide (a0 ≤ 1114111))) (dB (decide (a0 ≤ 1114111))) false (decide (a0 ≤ 1114111)) h)
  ·refine Ops.sg 7 14 ?_
   exact Ops.sx (J130j18 U U U U U U true true h)
 refine Ops.hv (fun KQ => ∀ v1 : Bool, f130_r2 m a0 (v1 && (decide (a0 < 55296))) = some o → KQ 3 ⟨Zs26 a0 v1 (u11 []), []⟩) ?_ fun G130g2 => Ops.sx (G130g2 (decide (a0 ≥ 0)) h)
 intro v1 h
 cases v1
 ·refine Ops.sg 3 6 ?_
  exact Ops.sx (J130j7 U U false false h)
 ·refine Ops.sg 3 6 ?_
  exact Ops.sx (J130j7 (dI a0) (dB (decide (a0 < 55296))) true (decide (a0 < 55296)) h)
noncomputable def f82 (m : Nat) (a0 : Int) : Option Int :=
 cnd (decide (a0 < 128))
 (some 1)
 (cnd (decide (a0 < 2048))
 (some 2)
 (cnd (decide (a0 < 65536))
 (some 3)
 (some 4)))
noncomputable abbrev X82 (n : Nat) : Cx := cxOf Proofs.Tryz.prog E 82 n
theorem ok82 (m : Nat) (a0 o : Int) (h : f82 m a0 = some o) (n : Nat) (hn : m + 1 ≤ n) : Fn Proofs.Tryz.prog E n 82 [.v (eI a0)] (eI o) := by
 obtain ⟨n, rfl⟩ : ∃ q, n = q + 1 := ⟨n - 1, by omega⟩
 unfold f82 at h
 refine Fn.of (by kernel_rfl) (by kernel_rfl) (by kernel_rfl) ⟨(dI a0)::u8 [], []⟩ (by kernel_rfl) (Wp.sq (Wp.rg (Ops.sg 1 1 (Ops.dn (seqQ.n (Wp.sq (Wp.sq (Wp.rg (Ops.sg 2 2 (Ops.dn (seqQ.n ?_)))))))))))
 refine Wp.cd h [0, 2] 0 (fun h => ?_) (fun h => ?_)
 ·refine Wp.sq (Wp.rg (Ops.sg 1 1 (Ops.dn (seqQ.n (Wp.rt (sqQ.r (seqQ.r ?_)))))))
  exact fnQ.r' (X82 n) (fun z => (eI z)) h (RetOk.mk' (dI 1) (by kernel_rfl) (by kernel_rfl))
 ·refine Wp.sk (sqQ.n' (seqQ.n (Wp.sq (Wp.sq (Wp.rg (Ops.sg 2 2 (Ops.dn (seqQ.n ?_))))))))
  refine Wp.cd h [0, 2] 0 (fun h => ?_) (fun h => ?_)
  ·refine Wp.sq (Wp.rg (Ops.sg 1 1 (Ops.dn (seqQ.n (Wp.rt (sqQ.r (seqQ.r ?_)))))))
   exact fnQ.r' (X82 n) (fun z => (eI z)) h (RetOk.mk' (dI 2) (by kernel_rfl) (by kernel_rfl))
  ·refine Wp.sk (sqQ.n' (seqQ.n (Wp.sq (Wp.sq (Wp.rg (Ops.sg 2 2 (Ops.dn (seqQ.n ?_))))))))
   refine Wp.cd h [2] 0 (fun h => ?_) (fun h => ?_)
   ·refine Wp.sq (Wp.rg (Ops.sg 1 1 (Ops.dn (seqQ.n (Wp.rt (sqQ.r (seqQ.r ?_)))))))
    exact fnQ.r' (X82 n) (fun z => (eI z)) h (RetOk.mk' (dI 3) (by kernel_rfl) (by kernel_rfl))
   ·refine Wp.sk (sqQ.n' (seqQ.n (Wp.sq (Wp.rg (Ops.sg 1 1 (Ops.dn (seqQ.n (Wp.rt ?_))))))))
    exact fnQ.r' (X82 n) (fun z => (eI z)) h (RetOk.mk' (dI 4) (by kernel_rfl) (by kernel_rfl))
noncomputable def f81_r1 (m : Nat) (v35 v36 v46 : Int) (v52 : Bool) : Option (Stp Int (Int × Int)) :=
 cnd v52
 (some (.ret (-1)))
 (some (.nxt (w64 (w64 (w64 (v35 * 64) + w64 v46) - 128), w64 (v36 + 1))))
noncomputable def f81_B2 (m : Nat) (a0 : ByteArray) (a1 v2 v35 v36 : Int) : Option (Stp Int (Int × Int)) :=
 cnd (decide (v36 < v2))
 (bnd (sidx a0 (w64 (a1 + v36))) fun v46 =>
 f81_r1 m v35 v36 v46 ((decide (w64 v46 < 128)) || (decide (w64 v46 > 191))))
 (some (.brk (v35, v36)))
noncomputable def f81_r3 (m : Nat) (y55 : Int × Int) (v65 : Bool) : Option Int :=
 cnd v65
 (some (-1))
 (some y55.1)
noncomputable def f81_j4 (m : Nat) (a0 : ByteArray) (a1 v2 v3 : Int) : Option Int :=
 cnd (decide (w64 (a1 + v2) > (a0.size : Int)))
 (some (-1))
 (brk (iter (fun (y : Int × Int) => f81_B2 m a0 a1 v2 y.1 y.2) m (v3, 1)) some fun y55 =>
 bnd (f130 m y55.1) fun v57 =>
 bnd (cnd (!v57)
 (some true)
 (bnd (f82 m y55.1) fun v67 =>
 some (v67 != v2))) fun v65 =>
 f81_r3 m y55 v65)
noncomputable def f81_j5 (m : Nat) (a0 : ByteArray) (a1 v68 v69 : Int) : Option Int :=
 f81_j4 m a0 a1 v68 v69
noncomputable def f81_j6 (m : Nat) (a0 : ByteArray) (a1 v79 v80 : Int) : Option Int :=
 f81_j5 m a0 a1 v79 v80
noncomputable def f81 (m : Nat) (a0 : ByteArray) (a1 : Int) : Option Int :=
 bnd (sidx a0 a1) fun v1 =>
 cnd (decide (w64 v1 ≥ 240))
 (f81_j4 m a0 a1 4 (w64 (w64 v1 - 240)))
 (cnd (decide (w64 v1 ≥ 224))
 (f81_j5 m a0 a1 3 (w64 (w64 v1 - 224)))
 (cnd (decide (w64 v1 ≥ 192))
 (f81_j6 m a0 a1 2 (w64 (w64 v1 - 192)))
 (cnd (decide (w64 v1 ≥ 128))
 (some (-1))
 (f81_j6 m a0 a1 1 (w64 v1)))))
noncomputable abbrev X81 (n : Nat) : Cx := cxOf Proofs.Tryz.prog E 81 n
noncomputable def C81 : Code := bodyOf Proofs.Tryz.prog 81
noncomputable abbrev p81_0 : Code := cR (cR (cR (cR (cR (cR (cR C81))))))
theorem ok81 (m : Nat) (a0 : ByteArray) (a1 o : Int) (h : f81 m a0 a1 = some o) (n : Nat) (hn : m + 2 ≤ n) : Fn Proofs.Tryz.prog E n 81 [.v (eS a0), .v (eI a1)] (eI o) := by
 obtain ⟨n, rfl⟩ : ∃ q, n = q + 1 := ⟨n - 1, by omega⟩
 unfold f81 at h
 refine Fn.of (by kernel_rfl) (by kernel_rfl) (by kernel_rfl) ⟨(.v (.str a0))::(dI a1)::u40 (u25 []), []⟩ (by kernel_rfl) (Wp.sq (Wp.rg (Ops.sg 1 1 (Ops.dn (seqQ.n (Wp.sq (Wp.rg (Ops.sg 2 2 ?_))))))))
 obtain ⟨v1, ev1, h⟩ := bnd_some h
 refine Ops.on 3 (fun h0 e0 => (str_ix (T := T) h0 9 a0 a1 v1 ev1 (by kernel_rfl))) ?_
 refine Ops.sg 2 5 (Ops.dn (seqQ.n (Wp.sq (Wp.rg (Ops.sg 1 1 (Ops.dn (seqQ.n (Wp.sq (Wp.rg (Ops.sg 2 2 (Ops.dn (seqQ.n (Wp.sq (Wp.sq (Wp.rg (Ops.sg 2 2 (Ops.dn (seqQ.n ?_))))))))))))))))))
 have J81j16 : ∀ (v2 v3 : Int) (d4 d5 d6 d7 d8 d9 d10 d11 d12 d13 d14 d15 : D), f81_j4 m a0 a1 v2 v3 = some o → (seqQ (X81 n) (cR (cR (cR (cR (cR C81))))) (fnQ (X81 n).E.T (resOf Proofs.Tryz.prog 81) (eI o))) .normal ⟨Zs11 a0 a1 (w64 v1) v2 v3 (.v (.int .u8 v1)) (decide (w64 v1 ≥ 240)) (d4::d5::d6::d7::d8::d9::d10::d11::d12::d13::d14::d15::u38 []), []⟩ := by
  intro v2 v3 d4 d5 d6 d7 d8 d9 d10 d11 d12 d13 d14 d15 h
  unfold f81_j4 at h
  refine seqQ.n (Wp.sq (Wp.sq (Wp.rg (Ops.sg 6 6 (Ops.dn (seqQ.n ?_))))))
  refine Wp.cd h [0, 1, 4, 6, 7] 0 (fun h => ?_) (fun h => ?_)
  ·refine Wp.sq (Wp.rg (Ops.sg 1 1 (Ops.dn (seqQ.n (Wp.rt (sqQ.r (seqQ.r ?_)))))))
   exact fnQ.r' (X81 n) (fun z => (eI z)) h (RetOk.mk' (dI (-1)) (by kernel_rfl) (by kernel_rfl))
  ·refine Wp.sk (sqQ.n' (seqQ.n (Wp.sq (Wp.sq (Wp.rg (Ops.sg 1 1 (Ops.dn (seqQ.n (Wp.bk 0 [4, 6, 7] 0 ?_)))))))))
   have hLx54 : ∀ (kx38 : Nat) (v35 v36 : Int)  (ox37 : Int ⊕ (Int × Int)), iter (fun (y : Int × Int) => f81_B2 m a0 a1 v2 y.1 y.2) kx38 (v35, v36) = some ox37 → ∀ nx39, kx38 ≤ nx39 → (∀ r, ox37 = .inl r → ∀ σ, RetOk (X81 n) (resOf Proofs.Tryz.prog 81) (eI r) σ → (seqQ (X81 n) p81_0 (fnQ (X81 n).E.T (resOf Proofs.Tryz.prog 81) (eI o))) .ret σ) → (∀ (y : Int × Int) , ox37 = .inr y → (seqQ (X81 n) p81_0 (fnQ (X81 n).E.T (resOf Proofs.Tryz.prog 81) (eI o))) .normal ⟨Zs18 a0 a1 v2 y.1 ((dI y.2)::q40 (q18 [])), []⟩) → Lp (X81 n) [0, 1, 4, 6, 7, 8] 0 (cL (cL (cR (cL (cR (cR (cR (cR (cR (cR C81)))))))))) nx39 ⟨Zs18 a0 a1 v2 v35 ((dI v36)::q40 (q18 [])), []⟩ (blkQ (X81 n) 0 [4, 6, 7] 0 (seqQ (X81 n) p81_0 (fnQ (X81 n).E.T (resOf Proofs.Tryz.prog 81) (eI o)))) := by
    intro kx38
    induction kx38 with
    | zero => intro v35 v36  ox37 h; exact (iter_zero h).elim
    | succ kx38 ihx40 =>
     intro v35 v36  ox37 h nx39 hnx43 hrx41 hxx42
     obtain ⟨nx39, rfl⟩ : ∃ q, nx39 = q + 1 := ⟨nx39 - 1, by omega⟩
     obtain ⟨sx44, h, hsx45⟩ := iter_some h
     have h : f81_B2 m a0 a1 v2 v35 v36 = some sx44 := h
     unfold f81_B2 at h
     refine Lp.succ (Wp.sq (Wp.sq (Wp.rg (Ops.sg 3 3 (Ops.dn (seqQ.n ?_))))))
     refine Wp.cd h [0, 1, 4, 6, 7, 8] 0 (fun h => ?_) (fun h => ?_)
     ·refine Wp.sk (sqQ.n' (seqQ.n (Wp.sq (Wp.bk 1 [0, 1, 4, 6, 7, 8] 0 (Wp.sq (Wp.rg (Ops.sg 4 4 ?_)))))))
      obtain ⟨v46, ev46, h⟩ := bnd_some h
      refine Ops.on 5 (fun h0 e0 => (str_ix (T := T) h0 9 a0 (w64 (a1 + v36)) v46 ev46 (by kernel_rfl))) ?_
      refine Ops.sg 2 7 (Ops.dn (seqQ.n (Wp.sq (Wp.sq (Wp.rg (Ops.sg 3 3 ?_))))))
      refine Ops.hv (fun KQ => ∀ (d49 d50 : D) (v51 v52 : Bool), f81_r1 m v35 v36 v46 v52 = some sx44 → KQ 6 ⟨Zs18 a0 a1 v2 v35 ((dI v36)::(dI (w64 v46))::q25 ((dI v36)::(dI v2)::(dB (decide (v36 < v2)))::q2 ((.v (.str a0))::(dI a1)::(dI v36)::(dI (w64 (a1 + v36)))::(.v (.int .u8 v46))::(dI (w64 v46))::(dI (w64 v46))::(dB v51)::(dB v51)::d49::d50::(dB v52)::q15 []))), []⟩) ?_ fun J81j53 => ?_
      ·intro d49 d50 v51 v52 h
       unfold f81_r1 at h
       refine Ops.dn (seqQ.n ?_)
       refine Wp.cd h [0, 1, 4, 6, 7, 8, 9] 0 (fun h => ?_) (fun h => ?_)
       ·refine Wp.sq (Wp.rg (Ops.sg 1 1 (Ops.dn (seqQ.n (Wp.rt (sqQ.r (seqQ.r (blkQ.r (seqQ.r ?_)))))))))
        cases h
        refine lpQ.r (blkQ.r ?_)
        exact hrx41 _ hsx45 _ (RetOk.forget [0, 1, 4, 6, 7, 8] (by kernel_rfl) (RetOk.mk' (dI (-1)) (by kernel_rfl) (by kernel_rfl)))
       ·refine Wp.sk (sqQ.n' (seqQ.n (Wp.rg (Ops.sg 6 6 (Ops.dn (blkQ.n' (seqQ.n (Wp.rg (Ops.sg 3 3 (Ops.dn (lpQ.m ⟨Zs18 a0 a1 v2 (w64 (w64 (w64 (v35 * 64) + w64 v46) - 128)) ((dI (w64 (v36 + 1)))::q40 (q18 [])), []⟩ ?_)))))))))))
        cases h
        exact ihx40 (w64 (w64 (w64 (v35 * 64) + w64 v46) - 128)) (w64 (v36 + 1))  _ hsx45 _ (by omega) hrx41 hxx42
      refine Ops.hv (fun KQ => ∀ v47 : Bool, f81_r1 m v35 v36 v46 (v47 || (decide (w64 v46 > 191))) = some sx44 → KQ 3 ⟨Zs18 a0 a1 v2 v35 ((dI v36)::(dI (w64 v46))::q25 ((dI v36)::(dI v2)::(dB (decide (v36 < v2)))::q2 ((.v (.str a0))::(dI a1)::(dI v36)::(dI (w64 (a1 + v36)))::(.v (.int .u8 v46))::(dI (w64 v46))::(dI (w64 v46))::(dB v47)::(dB v47)::q18 []))), []⟩) ?_ fun G81g48 => Ops.sx (G81g48 (decide (w64 v46 < 128)) h)
      intro v47 h
      cases v47
      ·refine Ops.sg 3 6 ?_
       exact Ops.sx (J81j53 (dI (w64 v46)) (dB (decide (w64 v46 > 191))) false (decide (w64 v46 > 191)) h)
      ·refine Ops.sg 3 6 ?_
       exact Ops.sx (J81j53 U U true true h)
     ·refine Wp.ex 0 (sqQ.x (seqQ.x ?_))
      cases h
      refine lpQ.x (blkQ.w ⟨Zs18 a0 a1 v2 v35 ((dI v36)::q40 (q18 [])), []⟩ ?_)
      exact hxx42 (v35, v36)  hsx45
   refine Wp.loop' [0, 1, 4, 6, 7, 8] 0 (by kernel_rfl) ⟨Zs18 a0 a1 v2 v3 ((dI 1)::q40 (q18 [])), []⟩ (by kernel_rfl) ?_
   rcases brk_some h with ⟨r56, er56, h⟩ | ⟨y55, ey55, h⟩
   ·refine hLx54 _ v3 1  _ er56 n (by omega) (fun r er σ hσ => ?_) (fun y  ey => by cases ey)
    cases er
    refine seqQ.r ?_
    exact fnQ.r' (X81 n) (fun z => (eI z)) h hσ
   ·refine hLx54 _ v3 1  _ ey55 n (by omega) (fun r er => by cases er) (fun y  ey => ?_)
    cases ey
    refine seqQ.n (Wp.sq (Wp.sq (Wp.rg (Ops.sg 1 1 ?_))))
    obtain ⟨v57, ev57, h⟩ := bnd_some h
    refine Ops.on 2 (fun h0 e0 => (call_ok (E' := E) (h := h0) (by kernel_rfl) (Args.v (vI y55.1) (eI y55.1) (by kernel_rfl) Args.nil) (ok130 m y55.1 v57 ev57 n (by omega)))) ?_
    refine Ops.sg 2 4 ?_
    refine Ops.hv (fun KQ => ∀ (d60 d61 d62 d63 : D) (v64 v65 : Bool), f81_r3 m y55 v65 = some o → KQ 9 ⟨Zs18 a0 a1 v2 y55.1 ((dI y55.2)::q40 (q8 ((dI y55.1)::(dB v57)::(dB v64)::(dB v64)::d60::d61::d62::d63::(dB v65)::q1 []))), []⟩) ?_ fun J81j66 => ?_
    ·intro d60 d61 d62 d63 v64 v65 h
     unfold f81_r3 at h
     refine Ops.dn (seqQ.n ?_)
     refine Wp.cd h [4, 7] 0 (fun h => ?_) (fun h => ?_)
     ·refine Wp.sq (Wp.rg (Ops.sg 1 1 (Ops.dn (seqQ.n (Wp.rt (sqQ.r (seqQ.r ?_)))))))
      exact fnQ.r' (X81 n) (fun z => (eI z)) h (RetOk.mk' (dI (-1)) (by kernel_rfl) (by kernel_rfl))
     ·refine Wp.sk (sqQ.n' (seqQ.n (Wp.sq (Wp.rg (Ops.sg 2 2 (Ops.dn (seqQ.n (Wp.rt ?_))))))))
      exact fnQ.r' (X81 n) (fun z => (eI z)) h (RetOk.mk' (dI y55.1) (by kernel_rfl) (by kernel_rfl))
    obtain ⟨v65, ev65, h⟩ := bnd_some h
    refine Ops.hv (fun KQ => ∀ v58 : Bool, (cnd v58 (some true) (bnd (f82 m y55.1) fun v67 => some (v67 != v2))) = some v65 → KQ 4 ⟨Zs18 a0 a1 v2 y55.1 ((dI y55.2)::q40 (q8 ((dI y55.1)::(dB v57)::(dB v58)::(dB v58)::q6 []))), []⟩) ?_ fun G81g59 => Ops.sx (G81g59 (!v57) ev65)
    intro v58 ev65
    cases v58
    ·have ev65 := cnd_f ev65
     refine Ops.sg 1 5 ?_
     obtain ⟨v67, ev67, ev65⟩ := bnd_some ev65
     refine Ops.on 6 (fun h0 e0 => (call_ok (E' := E) (h := h0) (by kernel_rfl) (Args.v (vI y55.1) (eI y55.1) (by kernel_rfl) Args.nil) (ok82 m y55.1 v67 ev67 n (by omega)))) ?_
     refine Ops.sg 3 9 ?_
     exact Ops.sx (J81j66 (dI y55.1) (dI v67) (dI v2) (dB (v67 != v2)) false (v67 != v2) (some_sub (fun v65 => f81_r3 m y55 v65 = some o) ev65 h))
    ·have ev65 := cnd_t ev65
     refine Ops.sg 5 9 ?_
     exact Ops.sx (J81j66 U U U U true true (some_sub (fun v65 => f81_r3 m y55 v65 = some o) ev65 h))
 refine Wp.cd h [0, 1, 4, 6, 7] 0 (fun h => ?_) (fun h => ?_)
 ·refine Wp.sq (Wp.rg (Ops.sg 1 1 (Ops.dn (seqQ.n (Wp.rg (Ops.sg 3 3 (Ops.dn (sqQ.m ⟨(.v (.str a0))::(dI a1)::u2 ((dI 0)::(dI (w64 v1))::(dI 4)::(dI (w64 (w64 v1 - 240)))::u2 ((.v (.str a0))::(dI a1)::(.v (.int .u8 v1))::(dI (w64 v1))::(dI (w64 v1))::(dI (w64 v1))::(dB (decide (w64 v1 ≥ 240)))::(dI (w64 v1))::(dI (w64 (w64 v1 - 240)))::u40 (u8 []))), []⟩ ?_))))))))
  exact J81j16 4 (w64 (w64 v1 - 240)) _ _ _ _ _ _ _ _ _ _ _ _ h
 ·refine Wp.sq (Wp.rg (Ops.sg 2 2 (Ops.dn (seqQ.n ?_))))
  have J81j78 : ∀ (v68 v69 : Int) (d70 d71 d72 d73 d74 d75 d76 d77 : D), f81_j5 m a0 a1 v68 v69 = some o → (sqQ (X81 n) [0, 1, 4, 6, 7] 0 (seqQ (X81 n) (cR (cR (cR (cR (cR C81))))) (fnQ (X81 n).E.T (resOf Proofs.Tryz.prog 81) (eI o)))) .normal ⟨Zs11 a0 a1 (w64 v1) v68 v69 (.v (.int .u8 v1)) (decide (w64 v1 ≥ 240)) (u2 ((dI (w64 v1))::(dB (decide (w64 v1 ≥ 224)))::d70::d71::d72::d73::d74::d75::d76::d77::u38 [])), []⟩ := by
   intro v68 v69 d70 d71 d72 d73 d74 d75 d76 d77 h
   unfold f81_j5 at h
   refine sqQ.m ⟨Zs11 a0 a1 (w64 v1) v68 v69 (.v (.int .u8 v1)) (decide (w64 v1 ≥ 240)) (u2 ((dI (w64 v1))::(dB (decide (w64 v1 ≥ 224)))::d70::d71::d72::d73::d74::d75::d76::d77::u38 [])), []⟩ ?_
   exact J81j16 v68 v69 _ _ _ _ _ _ _ _ _ _ _ _ h
  refine Wp.cd h [0, 1, 4, 6, 7] 0 (fun h => ?_) (fun h => ?_)
  ·refine Wp.sq (Wp.rg (Ops.sg 1 1 (Ops.dn (seqQ.n (Wp.rg (Ops.sg 3 3 (Ops.dn (sqQ.m ⟨(.v (.str a0))::(dI a1)::u2 ((dI 0)::(dI (w64 v1))::(dI 3)::(dI (w64 (w64 v1 - 224)))::u2 ((.v (.str a0))::(dI a1)::(.v (.int .u8 v1))::(dI (w64 v1))::(dI (w64 v1))::(dI (w64 v1))::(dB (decide (w64 v1 ≥ 240)))::u2 ((dI (w64 v1))::(dB (decide (w64 v1 ≥ 224)))::(dI (w64 v1))::(dI (w64 (w64 v1 - 224)))::u40 (u4 [])))), []⟩ ?_))))))))
   exact J81j78 3 (w64 (w64 v1 - 224)) _ _ _ _ _ _ _ _ h
  ·refine Wp.sq (Wp.rg (Ops.sg 2 2 (Ops.dn (seqQ.n ?_))))
   have J81j85 : ∀ (v79 v80 : Int) (d81 d82 d83 d84 : D), f81_j6 m a0 a1 v79 v80 = some o → (sqQ (X81 n) [0, 1, 4, 6, 7] 0 (sqQ (X81 n) [0, 1, 4, 6, 7] 0 (seqQ (X81 n) (cR (cR (cR (cR (cR C81))))) (fnQ (X81 n).E.T (resOf Proofs.Tryz.prog 81) (eI o))))) .normal ⟨Zs11 a0 a1 (w64 v1) v79 v80 (.v (.int .u8 v1)) (decide (w64 v1 ≥ 240)) (u2 ((dI (w64 v1))::(dB (decide (w64 v1 ≥ 224)))::u2 ((dI (w64 v1))::(dB (decide (w64 v1 ≥ 192)))::d81::d82::d83::d84::u38 []))), []⟩ := by
    intro v79 v80 d81 d82 d83 d84 h
    unfold f81_j6 at h
    refine sqQ.m ⟨Zs11 a0 a1 (w64 v1) v79 v80 (.v (.int .u8 v1)) (decide (w64 v1 ≥ 240)) (u2 ((dI (w64 v1))::(dB (decide (w64 v1 ≥ 224)))::u2 ((dI (w64 v1))::(dB (decide (w64 v1 ≥ 192)))::d81::d82::d83::d84::u38 []))), []⟩ ?_
    exact J81j78 v79 v80 _ _ _ _ _ _ _ _ h
   refine Wp.cd h [0, 1, 4, 6, 7] 0 (fun h => ?_) (fun h => ?_)
   ·refine Wp.sq (Wp.rg (Ops.sg 1 1 (Ops.dn (seqQ.n (Wp.rg (Ops.sg 3 3 (Ops.dn (sqQ.m ⟨(.v (.str a0))::(dI a1)::u2 ((dI 0)::(dI (w64 v1))::(dI 2)::(dI (w64 (w64 v1 - 192)))::u2 ((.v (.str a0))::(dI a1)::(.v (.int .u8 v1))::(dI (w64 v1))::(dI (w64 v1))::(dI (w64 v1))::(dB (decide (w64 v1 ≥ 240)))::u2 ((dI (w64 v1))::(dB (decide (w64 v1 ≥ 224)))::u2 ((dI (w64 v1))::(dB (decide (w64 v1 ≥ 192)))::(dI (w64 v1))::(dI (w64 (w64 v1 - 192)))::u40 [])))), []⟩ ?_))))))))
    exact J81j85 2 (w64 (w64 v1 - 192)) _ _ _ _ h
   ·refine Wp.sq (Wp.rg (Ops.sg 2 2 (Ops.dn (seqQ.n ?_))))
    refine Wp.cd h [0, 1, 4, 6, 7] 0 (fun h => ?_) (fun h => ?_)
    ·refine Wp.sq (Wp.rg (Ops.sg 1 1 (Ops.dn (seqQ.n (Wp.rt (sqQ.r (sqQ.r (sqQ.r (sqQ.r (seqQ.r ?_))))))))))
     exact fnQ.r' (X81 n) (fun z => (eI z)) h (RetOk.mk' (dI (-1)) (by kernel_rfl) (by kernel_rfl))
    ·refine Wp.sk (sqQ.n' (sqQ.m ⟨(.v (.str a0))::(dI a1)::u2 ((dI 0)::(dI (w64 v1))::(dI 1)::(dI (w64 v1))::u2 ((.v (.str a0))::(dI a1)::(.v (.int .u8 v1))::(dI (w64 v1))::(dI (w64 v1))::(dI (w64 v1))::(dB (decide (w64 v1 ≥ 240)))::u2 ((dI (w64 v1))::(dB (decide (w64 v1 ≥ 224)))::u2 ((dI (w64 v1))::(dB (decide (w64 v1 ≥ 192)))::u2 ((dI (w64 v1))::(dB (decide (w64 v1 ≥ 128)))::u38 []))))), []⟩ ?_))
     exact J81j85 1 (w64 v1) _ _ _ _ h
noncomputable def f44_B1 (m : Nat) (a0 : ByteArray) (v12 : (List Int)) (v13 : Int) : Option (Stp ((List Int) × S26) ((List Int) × Int)) :=
 cnd (decide (v13 < (a0.size : Int)))
 (bnd (f81 m a0 v13) fun v23 =>
 cnd (decide (v23 < 0))
 (bnd (f80 m 5 v13) fun v24 =>
 some (.ret (([], v24))))
 (bnd (app 8 v12 [v23]) fun v25 =>
 bnd (f82 m v23) fun v26 =>
 some (.nxt (v25, w64 (v13 + v26)))))
 (some (.brk (v12, v13)))
noncomputable def f44 (m : Nat) (a0 : ByteArray) : Option ((List Int) × S26) :=
 cnd (decide ((a0.size : Int) > 4000))
 (bnd (f80 m 1 (-1)) fun v1 =>
 some (([], v1)))
 (brk (iter (fun (y : (List Int) × Int) => f44_B1 m a0 y.1 y.2) m ([], 0)) some fun y28 =>
 some ((y28.1, (⟨0, 0⟩ : S26))))
noncomputable abbrev X44 (n : Nat) : Cx := cxOf Proofs.Tryz.prog E 44 n
noncomputable def C44 : Code := bodyOf Proofs.Tryz.prog 44
theorem ok44 (m : Nat) (a0 : ByteArray) (o : ((List Int) × S26)) (h : f44 m a0 = some o) (n : Nat) (hn : m + 3 ≤ n) : Fn Proofs.Tryz.prog E n 44 [.v (eS a0)] (.tuple [(eL eI) o.1, e26 o.2]) := by
 obtain ⟨n, rfl⟩ : ∃ q, n = q + 1 := ⟨n - 1, by omega⟩
 unfold f44 at h
 refine Fn.of (by kernel_rfl) (by kernel_rfl) (by kernel_rfl) ⟨(.v (.str a0))::u31 [], []⟩ (by kernel_rfl) (Wp.sq (Wp.rg (Ops.sg 2 2 (Ops.dn (seqQ.n (Wp.sq (Wp.sq (Wp.rg (Ops.sg 3 3 (Ops.dn (seqQ.n ?_)))))))))))
 refine Wp.cd h [0, 2, 3] 1 (fun h => ?_) (fun h => ?_)
 ·refine Wp.sq (Wp.rg ?_)
  obtain ⟨v1, ev1, h⟩ := bnd_some h
  refine Ops.on 1 (fun h0 e0 => (call_ok (E' := E) (h := h0) (by kernel_rfl) (Args.v (vI 1) (eI 1) (by kernel_rfl) (Args.v (vI (-1)) (eI (-1)) (by kernel_rfl) Args.nil)) (ok80 m 1 (-1) v1 ev1 n (by omega)))) ?_
  refine Ops.sg 2 3 (Ops.dn (seqQ.n (Wp.rt (sqQ.r (seqQ.r ?_)))))
  exact fnQ.r' (X44 n) (fun z => (.tuple [(eL eI) z.1, e26 z.2])) h (RetOk.mk' (.v (.tuple [(.sl .nil (List.map eI [])), (.agg [(vI v1.fCode), (vI v1.fIndex)])])) (by kernel_rfl) (by kernel_rfl))
 ·refine Wp.sk (sqQ.n' (seqQ.n (Wp.sq (Wp.rg (Ops.sg 1 1 (Ops.dn (seqQ.n (Wp.sq (Wp.sq (Wp.rg (Ops.sg 1 1 (Ops.dn (seqQ.n (Wp.bk 0 [2, 3, 4] 2 ?_))))))))))))))
  have hLx27 : ∀ (kx15 : Nat) (v12 : (List Int)) (v13 : Int)  (ox14 : ((List Int) × S26) ⊕ ((List Int) × Int)), iter (fun (y : (List Int) × Int) => f44_B1 m a0 y.1 y.2) kx15 (v12, v13) = some ox14 → ∀ nx16, kx15 ≤ nx16 → (∀ r, ox14 = .inl r → ∀ σ, RetOk (X44 n) (resOf Proofs.Tryz.prog 44) (.tuple [(eL eI) r.1, e26 r.2]) σ → (seqQ (X44 n) (cR (cR (cR (cR C44)))) (fnQ (X44 n).E.T (resOf Proofs.Tryz.prog 44) (.tuple [(eL eI) o.1, e26 o.2]))) .ret σ) → (∀ (y : (List Int) × Int) , ox14 = .inr y → (seqQ (X44 n) (cR (cR (cR (cR C44)))) (fnQ (X44 n).E.T (resOf Proofs.Tryz.prog 44) (.tuple [(eL eI) o.1, e26 o.2]))) .normal ⟨Zs36 (.v (.sl .nil (List.map eI []))) y.1 (q27 []), [(.cells [(dI 0), (dI 0)]), .dead, (appO 1 (List.map eI y.1))]⟩) → Lp (X44 n) [0, 2, 3, 4, 5] 2 (cL (cL (cR (cL (cR (cR (cR C44))))))) nx16 ⟨Zs19 a0 (.v (.sl .nil (List.map eI []))) ((appD 2 (List.map eI v12))::(dI v13)::q26 []), [(.cells [(dI 0), (dI 0)]), .dead, (appO 1 (List.map eI v12))]⟩ (blkQ (X44 n) 0 [2, 3, 4] 2 (seqQ (X44 n) (cR (cR (cR (cR C44)))) (fnQ (X44 n).E.T (resOf Proofs.Tryz.prog 44) (.tuple [(eL eI) o.1, e26 o.2])))) := by
   intro kx15
   induction kx15 with
   | zero => intro v12 v13  ox14 h; exact (iter_zero h).elim
   | succ kx15 ihx17 =>
    intro v12 v13  ox14 h nx16 hnx20 hrx18 hxx19
    obtain ⟨nx16, rfl⟩ : ∃ q, nx16 = q + 1 := ⟨nx16 - 1, by omega⟩
    obtain ⟨sx21, h, hsx22⟩ := iter_some h
    have h : f44_B1 m a0 v12 v13 = some sx21 := h
    unfold f44_B1 at h
    refine Lp.succ (Wp.sq (Wp.sq (Wp.rg (Ops.sg 4 4 (Ops.dn (seqQ.n ?_))))))
    refine Wp.cd h [0, 2, 3, 4, 5] 3 (fun h => ?_) (fun h => ?_)
    ·refine Wp.sk (sqQ.n ⟨Zs19 a0 (.v (.sl .nil (List.map eI []))) ((appD 3 (List.map eI v12))::(dI v13)::q26 []), [(.cells [(dI 0), (dI 0)]), .dead, .dead, (appO 1 (List.map eI v12))]⟩ (by generalize v12 = z0; cases z0 <;> kernel_rfl) (seqQ.n (Wp.bk 1 [0, 2, 3, 4, 5] 4 (Wp.sq (Wp.rg (Ops.sg 2 2 ?_))))))
     obtain ⟨v23, ev23, h⟩ := bnd_some h
     refine Ops.on 3 (fun h0 e0 => (call_ok (E' := E) (h := h0) (by kernel_rfl) (Args.v (.str a0) (eS a0) (by kernel_rfl) (Args.v (vI v13) (eI v13) (by kernel_rfl) Args.nil)) (ok81 m a0 v13 v23 ev23 n (by omega)))) ?_
     refine Ops.sg 1 4 (Ops.dn (seqQ.n (Wp.sq (Wp.sq (Wp.rg (Ops.sg 2 2 (Ops.dn (seqQ.n ?_))))))))
     refine Wp.cd h [0, 2, 3, 4, 5, 6] 4 (fun h => ?_) (fun h => ?_)
     ·refine Wp.sq (Wp.rg (Ops.sg 1 1 ?_))
      obtain ⟨v24, ev24, h⟩ := bnd_some h
      refine Ops.on 2 (fun h0 e0 => (call_ok (E' := E) (h := h0) (by kernel_rfl) (Args.v (vI 5) (eI 5) (by kernel_rfl) (Args.v (vI v13) (eI v13) (by kernel_rfl) Args.nil)) (ok80 m 5 v13 v24 ev24 n (by omega)))) ?_
      refine Ops.sg 2 4 (Ops.dn (seqQ.n (Wp.rt (sqQ.r (seqQ.r (blkQ.r ?_))))))
      cases h
      refine lpQ.r (blkQ.r ?_)
      exact hrx18 _ hsx22 _ (RetOk.forget [0, 2, 3, 4, 5] (by kernel_rfl) (RetOk.mk' (.v (.tuple [(.sl .nil (List.map eI [])), (.agg [(vI v24.fCode), (vI v24.fIndex)])])) (by kernel_rfl) (by kernel_rfl)))
     ·refine Wp.sk (sqQ.n ⟨Zs19 a0 (.v (.sl .nil (List.map eI []))) ((appD 4 (List.map eI v12))::(dI v13)::(dI v23)::q25 []), [(.cells [(dI 0), (dI 0)]), .dead, .dead, .dead, (appO 1 (List.map eI v12))]⟩ (by generalize v12 = z0; cases z0 <;> kernel_rfl) (seqQ.n (Wp.sq (Wp.rg (Ops.sg 3 3 ?_)))))
      obtain ⟨v25, ev25, h⟩ := bnd_some h
      refine Ops.on 4 (fun h0 e0 => (app_r (T := T) (g := .nil) h0 97 3 4 1 ti3 .nonfull eI v12 [v23] v25 ev25 (by kernel_rfl) (by kernel_rfl) (by kernel_rfl) (by kernel_rfl) (fun _ => rfl) (hq_of e0 (by kernel_rfl)))) ?_
      refine Ops.sg 1 5 (Ops.dn (seqQ.n (Wp.rg (Ops.sg 2 2 ?_))))
      obtain ⟨v26, ev26, h⟩ := bnd_some h
      refine Ops.on 3 (fun h0 e0 => (call_ok (E' := E) (h := h0) (by kernel_rfl) (Args.v (vI v23) (eI v23) (by kernel_rfl) Args.nil) (ok82 m v23 v26 ev26 n (by omega)))) ?_
      refine Ops.sg 2 5 (Ops.dn (blkQ.n ⟨Zs19 a0 (.v (.sl .nil (List.map eI []))) ((appD 4 (List.map eI v25))::(dI (w64 (v13 + v26)))::q26 []), [(.cells [(dI 0), (dI 0)]), .dead, .dead, .dead, (appO 1 (List.map eI v25))]⟩ (by generalize v25 = z0; cases z0 <;> kernel_rfl) (lpQ.n ⟨Zs19 a0 (.v (.sl .nil (List.map eI []))) ((appD 2 (List.map eI v25))::(dI (w64 (v13 + v26)))::q26 []), [(.cells [(dI 0), (dI 0)]), .dead, (appO 1 (List.map eI v25))]⟩ (by generalize v25 = z0; cases z0 <;> kernel_rfl) ?_)))
      cases h
      exact ihx17 v25 (w64 (v13 + v26))  _ hsx22 _ (by omega) hrx18 hxx19
    ·refine Wp.ex 0 (sqQ.x (seqQ.x ?_))
     cases h
     refine lpQ.x (blkQ.x ⟨Zs36 (.v (.sl .nil (List.map eI []))) v12 (q27 []), [(.cells [(dI 0), (dI 0)]), .dead, (appO 1 (List.map eI v12))]⟩ (by generalize v12 = z0; cases z0 <;> kernel_rfl) ?_)
     exact hxx19 (v12, v13)  hsx22
  refine Wp.loop' [0, 2, 3, 4, 5] 2 (by kernel_rfl) ⟨Zs19 a0 (.v (.sl .nil (List.map eI []))) ((appD 2 (List.map eI []))::(dI 0)::q26 []), [(.cells [(dI 0), (dI 0)]), .dead, .dead]⟩ (by kernel_rfl) ?_
  rcases brk_some h with ⟨r29, er29, h⟩ | ⟨y28, ey28, h⟩
  ·refine hLx27 _ [] 0  _ er29 n (by omega) (fun r er σ hσ => ?_) (fun y  ey => by cases ey)
   cases er
   refine seqQ.r ?_
   exact fnQ.r' (X44 n) (fun z => (.tuple [(eL eI) z.1, e26 z.2])) h hσ
  ·refine hLx27 _ [] 0  _ ey28 n (by omega) (fun r er => by cases er) (fun y  ey => ?_)
   cases ey
   refine seqQ.n (Wp.sq (Wp.rg (Ops.sg 4 4 (Ops.dn (seqQ.n (Wp.rt ?_))))))
   exact fnQ.r' (X44 n) (fun z => (.tuple [(eL eI) z.1, e26 z.2])) h (RetOk.tup [(appD 2 (List.map eI y28.1)), (.v (.agg [(vI 0), (vI 0)]))] (by kernel_rfl) (.d (appD 2 (List.map eI y28.1)) _ (appD_frz _ _ _ _) (appF_nt _ _ _) (.v (.agg [(vI 0), (vI 0)]) _ (by kernel_rfl) (by kernel_rfl) .nil)))
noncomputable def f20_B1 (m : Nat) (v65 v69 : Int) : Option (Stp Bool (Int)) :=
 cnd (decide (v69 < (([0, 9, 10, 32, 40, 41, 91, 93, 44, 59]).length : Int)))
 (bnd (idx ([0, 9, 10, 32, 40, 41, 91, 93, 44, 59]) v69) fun v79 =>
 cnd (v65 == v79)
 (some (.ret false))
 (some (.nxt (w64 (v69 + 1)))))
 (some (.brk v69))
noncomputable def f20_B2 (m : Nat) (v1 : ((List Int) × S26)) (v55 : Int) : Option (Stp Bool (Int)) :=
 cnd (decide (v55 < (v1.1.length : Int)))
 (bnd (idx v1.1 v55) fun v65 =>
 brk (iter (fun (y : Int) => f20_B1 m v65 y) m 0) (fun r => some (.ret r)) fun y81 =>
 cnd (decide (v65 ≥ 983040))
 (some (.ret false))
 (some (.nxt (w64 (v55 + 1)))))
 (some (.brk v55))
noncomputable def f20_r3 (m : Nat) (v1 : ((List Int) × S26)) (v16 : Bool) : Option Bool :=
 cnd v16
 (some false)
 (brk (iter (fun (y : Int) => f20_B2 m v1 y) m 0) some fun y84 =>
 some true)
noncomputable def f20_r4 (m : Nat) (v1 : ((List Int) × S26)) (v8 : Bool) : Option Bool :=
 f20_r3 m v1 (v8 || (decide ((v1.1.length : Int) > 30)))
noncomputable def f20 (m : Nat) (a0 : ByteArray) : Option Bool :=
 bnd (f44 m a0) fun v1 =>
 f20_r4 m v1 ((!((v1.2.fCode == 0) && ((v1.2.fIndex == 0) && true))) || ((v1.1.length : Int) == 0))
noncomputable abbrev X20 (n : Nat) : Cx := cxOf Proofs.Tryz.prog E 20 n
noncomputable def C20 : Code := bodyOf Proofs.Tryz.prog 20
noncomputable abbrev p20_0 : Code := cR (cR (cR (cR C20)))
noncomputable abbrev p20_1 : Code := cL (cL (cR (cL (cR (cR (cR C20))))))
noncomputable abbrev p20_2 : Code := cR (cR (cR p20_1))
noncomputable abbrev p20_3 : Code := cR (cR (cL (cL (cR (cR p20_1)))))
noncomputable abbrev b20_0 (w0 : ((List Int) × S26)) : AObj := .cells [(dI w0.2.fCode), (dI w0.2.fIndex)]
noncomputable abbrev k20_0 : List Nat := [2, 27, 28, 29]
noncomputable abbrev k20_1 : List Nat := [2, 6, 27, 28, 29, 33, 34, 35]
theorem ok20 (m : Nat) (a0 : ByteArray) (o : Bool) (h : f20 m a0 = some o) (n : Nat) (hn : m + 4 ≤ n) : Fn Proofs.Tryz.prog E n 20 [.v (eS a0)] (eB o) := by
 obtain ⟨n, rfl⟩ : ∃ q, n = q + 1 := ⟨n - 1, by omega⟩
 unfold f20 at h
 refine Fn.of (by kernel_rfl) (by kernel_rfl) (by kernel_rfl) ⟨(.v (.str a0))::u40 (u5 []), []⟩ (by kernel_rfl) (Wp.sq (Wp.rg (Ops.sg 1 1 (Ops.dn (seqQ.n (Wp.sq (Wp.rg (Ops.sg 1 1 ?_))))))))
 obtain ⟨v1, ev1, h⟩ := bnd_some h
 refine Ops.on 2 (fun h0 e0 => (call_ok (E' := E) (h := h0) (by kernel_rfl) (Args.v (.str a0) (eS a0) (by kernel_rfl) Args.nil) (ok44 m a0 v1 ev1 n (by omega)))) ?_
 refine Ops.sg 6 8 (Ops.dn (seqQ.n (Wp.sq (Wp.sq (Wp.rg (Ops.sg 4 4 ?_))))))
 refine Ops.hv (fun KQ => ∀ (d4 d5 d6 : D) (v7 v8 : Bool), f20_r4 m v1 v8 = some o → KQ 8 ⟨Zs7 a0 v1.1 (.v (.tuple [(vP eI v1.1), (.agg [(vI v1.2.fCode), (vI v1.2.fIndex)])])) (.v (.agg [(vI v1.2.fCode), (vI v1.2.fIndex)])) (.v (.agg [(vI 0), (vI 0)])) v7 (d4::d5::d6::(dB v8)::u24 []), [(b20_0 v1)]⟩) ?_ fun J20j9 => ?_
 ·intro d4 d5 d6 v7 v8 h
  unfold f20_r4 at h
  refine Ops.sg 1 9 ?_
  refine Ops.hv (fun KQ => ∀ (d12 d13 d14 : D) (v15 v16 : Bool), f20_r3 m v1 v16 = some o → KQ 13 ⟨Zs7 a0 v1.1 (.v (.tuple [(vP eI v1.1), (.agg [(vI v1.2.fCode), (vI v1.2.fIndex)])])) (.v (.agg [(vI v1.2.fCode), (vI v1.2.fIndex)])) (.v (.agg [(vI 0), (vI 0)])) v7 (d4::d5::d6::(dB v15)::(dB v15)::d12::d13::d14::(dB v16)::u19 []), [(b20_0 v1)]⟩) ?_ fun J20j17 => ?_
  ·intro d12 d13 d14 v15 v16 h
   unfold f20_r3 at h
   refine Ops.dn (seqQ.n ?_)
   refine Wp.cd h [2, 3] 1 (fun h => ?_) (fun h => ?_)
   ·refine Wp.sq (Wp.rg (Ops.sg 1 1 (Ops.dn (seqQ.n (Wp.rt (sqQ.r (seqQ.r ?_)))))))
    exact fnQ.r' (X20 n) (fun z => (eB z)) h (RetOk.mk' (dB false) (by kernel_rfl) (by kernel_rfl))
   ·refine Wp.sk (sqQ.n' (seqQ.n (Wp.sq (Wp.sq (Wp.rg (Ops.sg 1 1 ?_))))))
    refine Ops.on 2 (fun h0 e0 => (len_r (T := T) h0 97 3 .plain eI v1.1 (by kernel_rfl))) ?_
    refine Ops.sg 1 3 (Ops.dn (seqQ.n (Wp.bk 0 [2] 1 ?_)))
    have hLx83 : ∀ (kx57 : Nat) (v55 : Int)  (ox56 : Bool ⊕ (Int)), iter (fun (y : Int) => f20_B2 m v1 y) kx57 v55 = some ox56 → ∀ nx58, kx57 ≤ nx58 → (∀ r, ox56 = .inl r → ∀ σ, RetOk (X20 n) (resOf Proofs.Tryz.prog 20) (eB r) σ → (seqQ (X20 n) p20_0 (fnQ (X20 n).E.T (resOf Proofs.Tryz.prog 20) (eB o))) .ret σ) → (∀ (y : Int) , ox56 = .inr y → (seqQ (X20 n) p20_0 (fnQ (X20 n).E.T (resOf Proofs.Tryz.prog 20) (eB o))) .normal ⟨Zs32 v1.1 (v1.1.length : Int) ((dI y)::q16 []), [(b20_0 v1)]⟩) → Lp (X20 n) k20_0 1 p20_1 nx58 ⟨Zs32 v1.1 (v1.1.length : Int) ((dI v55)::q16 []), [(b20_0 v1)]⟩ (blkQ (X20 n) 0 [2] 1 (seqQ (X20 n) p20_0 (fnQ (X20 n).E.T (resOf Proofs.Tryz.prog 20) (eB o)))) := by
     intro kx57
     induction kx57 with
     | zero => intro v55  ox56 h; exact (iter_zero h).elim
     | succ kx57 ihx59 =>
      intro v55  ox56 h nx58 hnx62 hrx60 hxx61
      obtain ⟨nx58, rfl⟩ : ∃ q, nx58 = q + 1 := ⟨nx58 - 1, by omega⟩
      obtain ⟨sx63, h, hsx64⟩ := iter_some h
      have h : f20_B2 m v1 v55 = some sx63 := h
      unfold f20_B2 at h
      refine Lp.succ (Wp.sq (Wp.rg (Ops.sg 1 1 (Ops.dn (seqQ.n (Wp.sq ?_))))))
      refine Wp.cd h k20_0 1 (fun h => ?_) (fun h => ?_)
      ·refine Wp.sk (sqQ.n' (seqQ.n (Wp.sq (Wp.bk 1 k20_0 1 (Wp.sq (Wp.rg ?_))))))
       obtain ⟨v65, ev65, h⟩ := bnd_some h
       refine Ops.on 1 (fun h0 e0 => (ix_r (T := T) h0 97 3 1 .plain eI v1.1 v55 v65 ev65 (by kernel_rfl) (by kernel_rfl) (fun _ => rfl))) ?_
       refine Ops.sg 2 3 (Ops.dn (seqQ.n (Wp.sq (Wp.sq (Wp.rg (Ops.sg 1 1 ?_))))))
       refine Ops.on 2 (fun h0 e0 => (len_r (T := T) h0 97 3 .nonfull eI ([0, 9, 10, 32, 40, 41, 91, 93, 44, 59]) (by kernel_rfl))) ?_
       refine Ops.sg 1 3 (Ops.dn (seqQ.n (Wp.bk 2 [2, 6, 27, 28, 29] 1 ?_)))
       have hLx80 : ∀ (kx71 : Nat) (v69 : Int)  (ox70 : Bool ⊕ (Int)), iter (fun (y : Int) => f20_B1 m v65 y) kx71 v69 = some ox70 → ∀ nx72, kx71 ≤ nx72 → (∀ r, ox70 = .inl r → ∀ σ, RetOk (X20 n) (resOf Proofs.Tryz.prog 20) (eB r) σ → (seqQ (X20 n) p20_3 (blkQ (X20 n) 1 k20_0 1 (seqQ (X20 n) p20_2 (lpQ (X20 n) k20_0 1 p20_1 nx58 (blkQ (X20 n) 0 [2] 1 (seqQ (X20 n) p20_0 (fnQ (X20 n).E.T (resOf Proofs.Tryz.prog 20) (eB o)))))))) .ret σ) → (∀ (y : Int) , ox70 = .inr y → (seqQ (X20 n) p20_3 (blkQ (X20 n) 1 k20_0 1 (seqQ (X20 n) p20_2 (lpQ (X20 n) k20_0 1 p20_1 nx58 (blkQ (X20 n) 0 [2] 1 (seqQ (X20 n) p20_0 (fnQ (X20 n).E.T (resOf Proofs.Tryz.prog 20) (eB o)))))))) .normal ⟨Zs22 v65 v1.1 (v1.1.length : Int) v55 (.v (.sl .nonfull (List.map eI ([0, 9, 10, 32, 40, 41, 91, 93, 44, 59])))) ((([0, 9, 10, 32, 40, 41, 91, 93, 44, 59]).length : Int)) ((dI y)::q10 []), [(b20_0 v1)]⟩) → Lp (X20 n) k20_1 1 (cL (cL (cR (cL (cR (cL (cL (cR (cR p20_1))))))))) nx72 ⟨Zs22 v65 v1.1 (v1.1.length : Int) v55 (.v (.sl .nonfull (List.map eI ([0, 9, 10, 32, 40, 41, 91, 93, 44, 59])))) ((([0, 9, 10, 32, 40, 41, 91, 93, 44, 59]).length : Int)) ((dI v69)::q10 []), [(b20_0 v1)]⟩ (blkQ (X20 n) 2 [2, 6, 27, 28, 29] 1 (seqQ (X20 n) p20_3 (blkQ (X20 n) 1 k20_0 1 (seqQ (X20 n) p20_2 (lpQ (X20 n) k20_0 1 p20_1 nx58 (blkQ (X20 n) 0 [2] 1 (seqQ (X20 n) p20_0 (fnQ (X20 n).E.T (resOf Proofs.Tryz.prog 20) (eB o))))))))) := by
        intro kx71
        induction kx71 with
        | zero => intro v69  ox70 h; exact (iter_zero h).elim
        | succ kx71 ihx73 =>
         intro v69  ox70 h nx72 hnx76 hrx74 hxx75
         obtain ⟨nx72, rfl⟩ : ∃ q, nx72 = q + 1 := ⟨nx72 - 1, by omega⟩
         obtain ⟨sx77, h, hsx78⟩ := iter_some h
         have h : f20_B1 m v65 v69 = some sx77 := h
         unfold f20_B1 at h
         refine Lp.succ (Wp.sq (Wp.rg (Ops.sg 1 1 (Ops.dn (seqQ.n (Wp.sq ?_))))))
         refine Wp.cd h k20_1 1 (fun h => ?_) (fun h => ?_)
         ·refine Wp.sk (sqQ.n' (seqQ.n (Wp.sq (Wp.bk 3 k20_1 1 (Wp.sq (Wp.rg ?_))))))
          obtain ⟨v79, ev79, h⟩ := bnd_some h
          refine Ops.on 1 (fun h0 e0 => (ix_r (T := T) h0 97 3 1 .nonfull eI ([0, 9, 10, 32, 40, 41, 91, 93, 44, 59]) v69 v79 ev79 (by kernel_rfl) (by kernel_rfl) (fun _ => rfl))) ?_
          refine Ops.sg 2 3 (Ops.dn (seqQ.n (Wp.sq (Wp.rg (Ops.sg 3 3 (Ops.dn (seqQ.n ?_)))))))
          refine Wp.cd h k20_1 1 (fun h => ?_) (fun h => ?_)
          ·refine Wp.sq (Wp.rg (Ops.sg 1 1 (Ops.dn (seqQ.n (Wp.rt (sqQ.r (blkQ.r (seqQ.r ?_))))))))
           cases h
           refine lpQ.r (blkQ.r ?_)
           exact hrx74 _ hsx78 _ (RetOk.forget k20_1 (by kernel_rfl) (RetOk.mk' (dB false) (by kernel_rfl) (by kernel_rfl)))
          ·refine Wp.sk (sqQ.n' (blkQ.n' (seqQ.n (Wp.rg (Ops.sg 2 2 (Ops.dn (lpQ.m ⟨Zs22 v65 v1.1 (v1.1.length : Int) v55 (.v (.sl .nonfull (List.map eI ([0, 9, 10, 32, 40, 41, 91, 93, 44, 59])))) ((([0, 9, 10, 32, 40, 41, 91, 93, 44, 59]).length : Int)) ((dI (w64 (v69 + 1)))::q10 []), [(b20_0 v1)]⟩ ?_)))))))
           cases h
           exact ihx73 (w64 (v69 + 1))  _ hsx78 _ (by omega) hrx74 hxx75
         ·refine Wp.ex 2 (sqQ.x (seqQ.x ?_))
          cases h
          refine lpQ.x (blkQ.w ⟨Zs22 v65 v1.1 (v1.1.length : Int) v55 (.v (.sl .nonfull (List.map eI ([0, 9, 10, 32, 40, 41, 91, 93, 44, 59])))) ((([0, 9, 10, 32, 40, 41, 91, 93, 44, 59]).length : Int)) ((dI v69)::q10 []), [(b20_0 v1)]⟩ ?_)
          exact hxx75 v69  hsx78
       refine Wp.loop' k20_1 1 (by kernel_rfl) ⟨Zs22 v65 v1.1 (v1.1.length : Int) v55 (.v (.sl .nonfull (List.map eI ([0, 9, 10, 32, 40, 41, 91, 93, 44, 59])))) ((([0, 9, 10, 32, 40, 41, 91, 93, 44, 59]).length : Int)) ((dI 0)::q10 []), [(b20_0 v1)]⟩ (by kernel_rfl) ?_
       rcases brk_some h with ⟨r82, er82, h⟩ | ⟨y81, ey81, h⟩
       ·refine hLx80 _ 0  _ er82 n (by omega) (fun r er σ hσ => ?_) (fun y  ey => by cases ey)
        cases er
        refine seqQ.r (blkQ.r (seqQ.r (lpQ.r ?_)))
        cases h
        refine blkQ.r ?_
        exact hrx60 _ hsx64 _ (RetOk.forget k20_0 (by kernel_rfl) hσ)
       ·refine hLx80 _ 0  _ ey81 n (by omega) (fun r er => by cases er) (fun y  ey => ?_)
        cases ey
        refine seqQ.n (Wp.sq (Wp.rg (Ops.sg 2 2 (Ops.dn (seqQ.n ?_)))))
        refine Wp.cd h k20_0 1 (fun h => ?_) (fun h => ?_)
        ·refine Wp.sq (Wp.rg (Ops.sg 1 1 (Ops.dn (seqQ.n (Wp.rt (sqQ.r (blkQ.r (seqQ.r ?_))))))))
         cases h
         refine lpQ.r (blkQ.r ?_)
         exact hrx60 _ hsx64 _ (RetOk.forget k20_0 (by kernel_rfl) (RetOk.mk' (dB false) (by kernel_rfl) (by kernel_rfl)))
        ·refine Wp.sk (sqQ.n' (blkQ.n' (seqQ.n (Wp.rg (Ops.sg 2 2 (Ops.dn (lpQ.m ⟨Zs32 v1.1 (v1.1.length : Int) ((dI (w64 (v55 + 1)))::q16 []), [(b20_0 v1)]⟩ ?_)))))))
         cases h
         exact ihx59 (w64 (v55 + 1))  _ hsx64 _ (by omega) hrx60 hxx61
      ·refine Wp.ex 0 (sqQ.x (seqQ.x ?_))
       cases h
       refine lpQ.x (blkQ.w ⟨Zs32 v1.1 (v1.1.length : Int) ((dI v55)::q16 []), [(b20_0 v1)]⟩ ?_)
       exact hxx61 v55  hsx64
    refine Wp.loop' k20_0 1 (by kernel_rfl) ⟨Zs32 v1.1 (v1.1.length : Int) ((dI 0)::q16 []), [(b20_0 v1)]⟩ (by kernel_rfl) ?_
    rcases brk_some h with ⟨r85, er85, h⟩ | ⟨y84, ey84, h⟩
    ·refine hLx83 _ 0  _ er85 n (by omega) (fun r er σ hσ => ?_) (fun y  ey => by cases ey)
     cases er
     refine seqQ.r ?_
     exact fnQ.r' (X20 n) (fun z => (eB z)) h hσ
    ·refine hLx83 _ 0  _ ey84 n (by omega) (fun r er => by cases er) (fun y  ey => ?_)
     cases ey
     refine seqQ.n (Wp.sq (Wp.rg (Ops.sg 1 1 (Ops.dn (seqQ.n (Wp.rt ?_))))))
     exact fnQ.r' (X20 n) (fun z => (eB z)) h (RetOk.mk' (dB true) (by kernel_rfl) (by kernel_rfl))
  refine Ops.hv (fun KQ => ∀ v10 : Bool, f20_r3 m v1 (v10 || (decide ((v1.1.length : Int) > 30))) = some o → KQ 9 ⟨Zs7 a0 v1.1 (.v (.tuple [(vP eI v1.1), (.agg [(vI v1.2.fCode), (vI v1.2.fIndex)])])) (.v (.agg [(vI v1.2.fCode), (vI v1.2.fIndex)])) (.v (.agg [(vI 0), (vI 0)])) v7 (d4::d5::d6::(dB v10)::(dB v10)::u23 []), [(b20_0 v1)]⟩) ?_ fun G20g11 => Ops.sx (G20g11 v8 h)
  intro v10 h
  cases v10
  ·refine Ops.sg 1 10 ?_
   refine Ops.on 11 (fun h0 e0 => (len_r (T := T) h0 97 3 .plain eI v1.1 (by kernel_rfl))) ?_
   refine Ops.sg 2 13 ?_
   exact Ops.sx (J20j17 (dP eI v1.1) (dI (v1.1.length : Int)) (dB (decide ((v1.1.length : Int) > 30))) false (decide ((v1.1.length : Int) > 30)) h)
  ·refine Ops.sg 4 13 ?_
   exact Ops.sx (J20j17 U U U true true h)
 refine Ops.hv (fun KQ => ∀ v2 : Bool, f20_r4 m v1 (v2 || ((v1.1.length : Int) == 0)) = some o → KQ 4 ⟨Zs7 a0 v1.1 (.v (.tuple [(vP eI v1.1), (.agg [(vI v1.2.fCode), (vI v1.2.fIndex)])])) (.v (.agg [(vI v1.2.fCode), (vI v1.2.fIndex)])) (.v (.agg [(vI 0), (vI 0)])) v2 (u28 []), [(b20_0 v1)]⟩) ?_ fun G20g3 => Ops.sx (G20g3 (!((v1.2.fCode == 0) && ((v1.2.fIndex == 0) && true))) h)
 intro v2 h
 cases v2
 ·refine Ops.sg 1 5 ?_
  refine Ops.on 6 (fun h0 e0 => (len_r (T := T) h0 97 3 .plain eI v1.1 (by kernel_rfl))) ?_
  refine Ops.sg 2 8 ?_
  exact Ops.sx (J20j9 (dP eI v1.1) (dI (v1.1.length : Int)) (dB ((v1.1.length : Int) == 0)) false ((v1.1.length : Int) == 0) h)
 ·refine Ops.sg 4 8 ?_
  exact Ops.sx (J20j9 U U U true true h)
noncomputable def f6_B1 (m : Nat) (a0 : (List ByteArray)) (v6 : Int) : Option (Stp S26 (Int)) :=
 cnd (decide (v6 < (a0.length : Int)))
 (bnd (idx a0 v6) fun v16 =>
 bnd (f20 m v16) fun v17 =>
 cnd (!v17)
 (some (.ret ((⟨5, v6⟩ : S26))))
 (some (.nxt (w64 (v6 + 1)))))
 (some (.brk v6))
noncomputable def f6 (m : Nat) (a0 : (List ByteArray)) : Option S26 :=
 cnd (decide ((a0.length : Int) > 100))
 (some ((⟨2, (-2)⟩ : S26)))
 (brk (iter (fun (y : Int) => f6_B1 m a0 y) m 0) some fun y19 =>
 some ((⟨0, 0⟩ : S26)))
noncomputable abbrev X6 (n : Nat) : Cx := cxOf Proofs.Tryz.prog E 6 n
noncomputable def C6 : Code := bodyOf Proofs.Tryz.prog 6
theorem ok6 (m : Nat) (a0 : (List ByteArray)) (o : S26) (h : f6 m a0 = some o) (n : Nat) (hn : m + 5 ≤ n) : Fn Proofs.Tryz.prog E n 6 [.v ((eL eS) a0)] (e26 o) := by
 obtain ⟨n, rfl⟩ : ∃ q, n = q + 1 := ⟨n - 1, by omega⟩
 unfold f6 at h
 refine Fn.of (by kernel_rfl) (by kernel_rfl) (by kernel_rfl) ⟨(dP eS a0)::u22 [], []⟩ (by kernel_rfl) (Wp.sq (Wp.rg (Ops.sg 1 1 (Ops.dn (seqQ.n (Wp.sq (Wp.sq (Wp.rg (Ops.sg 1 1 ?_)))))))))
 refine Ops.on 2 (fun h0 e0 => (len_r (T := T) h0 22 9 .plain eS a0 (by kernel_rfl))) ?_
 refine Ops.sg 1 3 (Ops.dn (seqQ.n ?_))
 refine Wp.cd h [0, 2] 1 (fun h => ?_) (fun h => ?_)
 ·refine Wp.sq (Wp.rg (Ops.sg 2 2 (Ops.dn (seqQ.n (Wp.rt (sqQ.r (seqQ.r ?_)))))))
  exact fnQ.r' (X6 n) (fun z => (e26 z)) h (RetOk.mk' (.v (.agg [(vI 2), (vI (-2))])) (by kernel_rfl) (by kernel_rfl))
 ·refine Wp.sk (sqQ.n' (seqQ.n (Wp.sq (Wp.sq (Wp.rg (Ops.sg 1 1 ?_))))))
  refine Ops.on 2 (fun h0 e0 => (len_r (T := T) h0 22 9 .plain eS a0 (by kernel_rfl))) ?_
  refine Ops.sg 1 3 (Ops.dn (seqQ.n (Wp.bk 0 [2] 1 ?_)))
  have hLx18 : ∀ (kx8 : Nat) (v6 : Int)  (ox7 : S26 ⊕ (Int)), iter (fun (y : Int) => f6_B1 m a0 y) kx8 v6 = some ox7 → ∀ nx9, kx8 ≤ nx9 → (∀ r, ox7 = .inl r → ∀ σ, RetOk (X6 n) (resOf Proofs.Tryz.prog 6) (e26 r) σ → (seqQ (X6 n) (cR (cR (cR C6))) (fnQ (X6 n).E.T (resOf Proofs.Tryz.prog 6) (e26 o))) .ret σ) → (∀ (y : Int) , ox7 = .inr y → (seqQ (X6 n) (cR (cR (cR C6))) (fnQ (X6 n).E.T (resOf Proofs.Tryz.prog 6) (e26 o))) .normal ⟨Zs34 a0 (a0.length : Int) ((dI y)::q11 []), [(.cells [(dI 0), (dI 0)])]⟩) → Lp (X6 n) [2, 9, 10, 11] 1 (cL (cL (cR (cL (cR (cR C6)))))) nx9 ⟨Zs34 a0 (a0.length : Int) ((dI v6)::q11 []), [(.cells [(dI 0), (dI 0)])]⟩ (blkQ (X6 n) 0 [2] 1 (seqQ (X6 n) (cR (cR (cR C6))) (fnQ (X6 n).E.T (resOf Proofs.Tryz.prog 6) (e26 o)))) := by
   intro kx8
   induction kx8 with
   | zero => intro v6  ox7 h; exact (iter_zero h).elim
   | succ kx8 ihx10 =>
    intro v6  ox7 h nx9 hnx13 hrx11 hxx12
    obtain ⟨nx9, rfl⟩ : ∃ q, nx9 = q + 1 := ⟨nx9 - 1, by omega⟩
    obtain ⟨sx14, h, hsx15⟩ := iter_some h
    have h : f6_B1 m a0 v6 = some sx14 := h
    unfold f6_B1 at h
    refine Lp.succ (Wp.sq (Wp.rg (Ops.sg 1 1 (Ops.dn (seqQ.n (Wp.sq ?_))))))
    refine Wp.cd h [2, 9, 10, 11] 1 (fun h => ?_) (fun h => ?_)
    ·refine Wp.sk (sqQ.n' (seqQ.n (Wp.sq (Wp.bk 1 [2, 9, 10, 11] 1 (Wp.sq (Wp.rg (Ops.sg 1 1 ?_)))))))
     obtain ⟨v16, ev16, h⟩ := bnd_some h
     refine Ops.on 2 (fun h0 e0 => (ix_r (T := T) h0 22 9 1 .plain eS a0 v6 v16 ev16 (by kernel_rfl) (by kernel_rfl) (fun _ => rfl))) ?_
     refine Ops.sg 3 5 (Ops.dn (seqQ.n (Wp.sq (Wp.rg (Ops.sg 1 1 ?_)))))
     obtain ⟨v17, ev17, h⟩ := bnd_some h
     refine Ops.on 2 (fun h0 e0 => (call_ok (E' := E) (h := h0) (by kernel_rfl) (Args.v (.str v16) (eS v16) (by kernel_rfl) Args.nil) (ok20 m v16 v17 ev17 n (by omega)))) ?_
     refine Ops.sg 1 3 (Ops.dn (seqQ.n ?_))
     refine Wp.cd h [2, 9, 10, 11] 1 (fun h => ?_) (fun h => ?_)
     ·refine Wp.sq (Wp.rg (Ops.sg 3 3 (Ops.dn (seqQ.n (Wp.rt (sqQ.r (blkQ.r (seqQ.r ?_))))))))
      cases h
      refine lpQ.r (blkQ.r ?_)
      exact hrx11 _ hsx15 _ (RetOk.forget [2, 9, 10, 11] (by kernel_rfl) (RetOk.mk' (.v (.agg [(vI 5), (vI v6)])) (by kernel_rfl) (by kernel_rfl)))
     ·refine Wp.sk (sqQ.n' (blkQ.n' (seqQ.n (Wp.rg (Ops.sg 2 2 (Ops.dn (lpQ.m ⟨Zs34 a0 (a0.length : Int) ((dI (w64 (v6 + 1)))::q11 []), [(.cells [(dI 0), (dI 0)])]⟩ ?_)))))))
      cases h
      exact ihx10 (w64 (v6 + 1))  _ hsx15 _ (by omega) hrx11 hxx12
    ·refine Wp.ex 0 (sqQ.x (seqQ.x ?_))
     cases h
     refine lpQ.x (blkQ.w ⟨Zs34 a0 (a0.length : Int) ((dI v6)::q11 []), [(.cells [(dI 0), (dI 0)])]⟩ ?_)
     exact hxx12 v6  hsx15
  refine Wp.loop' [2, 9, 10, 11] 1 (by kernel_rfl) ⟨Zs34 a0 (a0.length : Int) ((dI 0)::q11 []), [(.cells [(dI 0), (dI 0)])]⟩ (by kernel_rfl) ?_
  rcases brk_some h with ⟨r20, er20, h⟩ | ⟨y19, ey19, h⟩
  ·refine hLx18 _ 0  _ er20 n (by omega) (fun r er σ hσ => ?_) (fun y  ey => by cases ey)
   cases er
   refine seqQ.r ?_
   exact fnQ.r' (X6 n) (fun z => (e26 z)) h hσ
  ·refine hLx18 _ 0  _ ey19 n (by omega) (fun r er => by cases er) (fun y  ey => ?_)
   cases ey
   refine seqQ.n (Wp.sq (Wp.rg (Ops.sg 2 2 (Ops.dn (seqQ.n (Wp.rt ?_))))))
   exact fnQ.r' (X6 n) (fun z => (e26 z)) h (RetOk.mk' (.v (.agg [(vI 0), (vI 0)])) (by kernel_rfl) (by kernel_rfl))
noncomputable def f21 (m : Nat) (a0 a1 : Int) : Option S26 :=
 some ((⟨a0, a1⟩ : S26))
noncomputable abbrev X21 (n : Nat) : Cx := cxOf Proofs.Tryz.prog E 21 n
theorem ok21 (m : Nat) (a0 a1 : Int) (o : S26) (h : f21 m a0 a1 = some o) (n : Nat) (hn : m + 1 ≤ n) : Fn Proofs.Tryz.prog E n 21 [.v (eI a0), .v (eI a1)] (e26 o) := by
 obtain ⟨n, rfl⟩ : ∃ q, n = q + 1 := ⟨n - 1, by omega⟩
 unfold f21 at h
 refine Fn.of (by kernel_rfl) (by kernel_rfl) (by kernel_rfl) ⟨(dI a0)::(dI a1)::u6 [], []⟩ (by kernel_rfl) (Wp.sq (Wp.rg (Ops.sg 1 1 (Ops.dn (seqQ.n (Wp.sq (Wp.rg (Ops.sg 4 4 (Ops.dn (seqQ.n (Wp.rt ?_)))))))))))
 exact fnQ.r' (X21 n) (fun z => (e26 z)) h (RetOk.mk' (.v (.agg [(vI a0), (vI a1)])) (by kernel_rfl) (by kernel_rfl))
end Go.Abs
